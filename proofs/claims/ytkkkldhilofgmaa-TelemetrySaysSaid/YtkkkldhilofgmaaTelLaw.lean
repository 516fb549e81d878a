/-
  TelemetrySays holds: points keep the messages that a list keeps, whatever the input.
-/
import Derived.Test.YtkkkldhilofgmaaTelL
namespace Go.Proofs.Ytkkkldhilofgmaa
open Go.RowKit Go.ChangeShapes Go.WideShapes

/-- a box's nil slice that a callee hands back is looked at as an own row without elements -/
theorem Fn.nilC {P : Program} {f : FuncId} {args : List AV} {K K' : List OB → AV → Prop} (h : Fn P f args K)
    (hk : ∀ obs r, K obs r → K' obs r ∨ ∃ i off e sz cs, obs[i]? = some (.box cs) ∧ cs[off]? = some (.c (.v (.slice none 0 0))) ∧ K' (nilUpC ⟨[], obs⟩ i off e sz).obs r) : Fn P f args K' :=
  ⟨h.1, fun w I vs hI hd => (h.2 w I vs hI hd).mono fun e w' ⟨u, σ, I', obs, r, h1, h2, h3, h4, h5, h6, h7⟩ => by
    rcases hk obs r h2 with h8 | ⟨i, off, e0, sz, cs, ho, hc, h8⟩
    · exact ⟨u, σ, I', obs, r, h1, h8, h3, h4, h5, h6, h7⟩
    · have hrel : Rel ⟨w, fun b => w.heap.size ≤ b, fun _ => undef, fun _ h => h⟩ I ⟨[], obs⟩ σ I' #[] w' := ⟨⟨h3.os, h3.tape, h3.output, h3.size, fun b hb _ => h3.block b hb⟩, h6, fun t => by simp only [fget, Den], h4, h5, Nat.zero_le _⟩
      have hr := hrel.nilUpC e0 sz ho hc
      exact ⟨u, _, I', _, r, h1, h8, h3, h4, h5, hr.st, h7.mono (Asg.le_ext σ _ _) (Keeps.refl _ _) (fun _ h => h)⟩⟩
def T0 : Tl := ⟨0, fun _ => ⟨#[]⟩, fun _ => 0, fun _ => 0, fun _ => 0, fun _ => 0⟩
abbrev ptR0 : OB := .row 151 5 0 true fun _ _ => .v undef
theorem tlNew (age : Int) : Fn Try.prog 49 [intV age] (fun obs r => (age < 0 ∨ 200000 < age) ∧ obs = [] ∧ r = .tup [.c (.v (.pointer none)), intV 4] ∨ ¬ (age < 0 ∨ 200000 < age) ∧ obs = [ptB age, ptR0] ∧ r = .tup [.lp 0 0, intV 0]) :=
  (tlNew0 age).nilC fun obs r h => by
    rcases h with h | ⟨h, rfl, rfl⟩
    · exact .inl (.inl h)
    · exact .inr ⟨0, 1, 151, 5, _, rfl, rfl, .inr ⟨h, rfl, rfl⟩⟩

def sIxI (G : Int → Tl → ByteArray → Int → AV) : List AV → Sd × AV
  | [.xp 2 f, .c (.v (.string s)), .c (.v (.int .i64 x))] => match f 0, f 1 with
    | .v (.int .i64 age), .sl 5 n g => (.p (tlGood (tlOf n g) ∧ Sh n 5 g (cP (tlOf n g))), G age (tlOf n g) s x)
    | _, _ => (.p False, .top)
  | _ => (.p False, .top)
theorem sIxI_ok {f : FuncId} {G : Int → Tl → ByteArray → Int → AV} (h : ∀ age t s x, tlGood t → Fn1 Try.prog f [.xp 2 (ptF age t), strV s, intV x] (G age t s x)) : ∀ args, (sIxI G args).1.ok → (sIxI G args).2.exact.isSome = true → Fn1 Try.prog f args (sIxI G args).2 := fun args hs _ => by
  unfold sIxI at hs ⊢
  split at hs
  · split at hs
    · rename_i h0 h1
      exact (h _ _ _ _ hs.1).le (Le.cons (ptF_le h0 h1 hs.2) (Le.cons (Le1.refl _) (Le.cons (Le1.refl _) Le.nil)))
    · exact hs.elim
  · exact hs.elim
def sIxG (G : Int → Tl → ByteArray → AV) : List AV → Sd × AV
  | [.xp 2 f, .c (.v (.string s))] => match f 0, f 1 with
    | .v (.int .i64 age), .sl 5 n g => (.p (tlGood (tlOf n g) ∧ Sh n 5 g (cP (tlOf n g))), G age (tlOf n g) s)
    | _, _ => (.p False, .top)
  | _ => (.p False, .top)
theorem sIxG_ok {f : FuncId} {G : Int → Tl → ByteArray → AV} (h : ∀ age t s, tlGood t → Fn1 Try.prog f [.xp 2 (ptF age t), strV s] (G age t s)) : ∀ args, (sIxG G args).1.ok → (sIxG G args).2.exact.isSome = true → Fn1 Try.prog f args (sIxG G args).2 := fun args hs _ => by
  unfold sIxG at hs ⊢
  split at hs
  · split at hs
    · rename_i h0 h1
      exact (h _ _ _ hs.1).le (Le.cons (ptF_le h0 h1 hs.2) (Le.cons (Le1.refl _) Le.nil))
    · exact hs.elim
  · exact hs.elim
def gamTL : Gam := fun f => match f with
  | 52 => some (s3 inB)
  | 55 => some (sMs fun s a b c => intV (msE s a b c))
  | 51 => some (sIxI fun age t s x => .tup [intV (vlE age t s x).1, intV (vlE age t s x).2.1, intV (vlE age t s x).2.2])
  | 56 => some (sIxG fun _ t s => .tup [intV (skE t s).1, intV (skE t s).2])
  | _ => none
theorem gamTL_ok : GOk Try.prog gamTL := fun f g h => by
  unfold gamTL at h
  split at h
  · injection h with h; subst h; exact s3_ok in4
  · injection h with h; subst h; exact sMs_ok tlMsg
  · injection h with h; subst h; exact sIxI_ok tlValue
  · injection h with h; subst h; exact sIxG_ok tlSkip
  · cases h
theorem tk_cases (t : Tl) (s : ByteArray) (nu ti va : Int) :
    (msE s nu ti va ≠ 0 ∧ tlK t s nu ti va = (t, false, msE s nu ti va)) ∨
    (msE s nu ti va = 0 ∧ fidx (sameN t.nm s) t.n < 0 ∧ t.n = 24 ∧ tlK t s nu ti va = (t, false, 9)) ∨
    (msE s nu ti va = 0 ∧ fidx (sameN t.nm s) t.n < 0 ∧ t.n ≠ 24 ∧ tlK t s nu ti va = (t.put (t.n + 1) t.n s nu ti va 1, true, 0)) ∨
    (msE s nu ti va = 0 ∧ ¬ fidx (sameN t.nm s) t.n < 0 ∧ nu ≤ t.nu (fidx (sameN t.nm s) t.n).toNat ∧ tlK t s nu ti va = (t, false, 0)) ∨
    (msE s nu ti va = 0 ∧ ¬ fidx (sameN t.nm s) t.n < 0 ∧ ¬ nu ≤ t.nu (fidx (sameN t.nm s) t.n).toNat ∧ ti < t.ti (fidx (sameN t.nm s) t.n).toNat ∧ tlK t s nu ti va = (t, false, 12)) ∨
    (msE s nu ti va = 0 ∧ ¬ fidx (sameN t.nm s) t.n < 0 ∧ ¬ nu ≤ t.nu (fidx (sameN t.nm s) t.n).toNat ∧ ¬ ti < t.ti (fidx (sameN t.nm s) t.n).toNat ∧ tlK t s nu ti va = (t.put t.n (fidx (sameN t.nm s) t.n).toNat s nu ti va (t.mn (fidx (sameN t.nm s) t.n).toNat + 1), true, 0)) := by
  by_cases h0 : msE s nu ti va = 0
  rotate_left
  · exact .inl ⟨h0, tk_err h0⟩
  by_cases h1 : fidx (sameN t.nm s) t.n < 0
  · by_cases h2 : t.n = 24
    · exact .inr (.inl ⟨h0, h1, h2, tk_full h0 h1 h2⟩)
    · exact .inr (.inr (.inl ⟨h0, h1, h2, tk_new h0 h1 h2⟩))
  · by_cases h2 : nu ≤ t.nu (fidx (sameN t.nm s) t.n).toNat
    · exact .inr (.inr (.inr (.inl ⟨h0, h1, h2, tk_old h0 h1 h2⟩)))
    · by_cases h3 : ti < t.ti (fidx (sameN t.nm s) t.n).toNat
      · exact .inr (.inr (.inr (.inr (.inl ⟨h0, h1, h2, h3, tk_time h0 h1 h2 h3⟩))))
      · exact .inr (.inr (.inr (.inr (.inr ⟨h0, h1, h2, h3, tk_put h0 h1 h2 h3⟩))))
def bA : ByteArray := ⟨#[65]⟩
def T1 : Tl := T0.put 1 0 bA 3 100 7 1
theorem fact1 : tlK T0 bA 3 100 7 = (T1, true, 0) := tk_new (by decide +kernel) (by decide) (by decide)
theorem fact2 : vlE 10 T1 bA 111 = (7, 1, 0) := by decide +kernel
theorem good1 : tlGood T1 := ⟨by decide, fun k hk => by
  obtain rfl : k = 0 := by have hk : k < 1 := hk; omega
  decide⟩
structure Kept (A : Prop) : Prop where
  v : A
theorem share {A G : Prop} (h : Kept A → G) (a : A) : G := h ⟨a⟩
theorem shareP (B : Prop) {A G : Prop} (h : Kept (B → A) → G) (a : B → A) : G := h ⟨a⟩
theorem LoopG.sub {P : Program} {N : Nat} {c : Code} {S S' : AS} {K : Ex → AS → Prop} (h : LoopG P N c S' K) (h0 : ∃ (x : Nat) (π : List Nat), True ∧ 0 < 1 ∧ Sub π S S') : LoopG P N c S K := by
  obtain ⟨_, π, _, _, hs⟩ := h0
  exact ⟨fun w0 I0 σ I a w hd hN hr => h.sem w0 I0 _ I a w hd hN (hr.sub hs)⟩
abbrev ptL (t : Tl) : OB := .row 101 4 t.n false (cM t)
abbrev gpR (t : Tl) : OB := .row 3 1 t.n false (c1 fun k => t.nu k - t.mn k)
theorem cM_ne {t : Tl} {n' i : Nat} {s : ByteArray} {nu ti va mn : Int} {a : Nat} (h : a ≠ i) (b : Nat) : cM (t.put n' i s nu ti va mn) a b = cM t a b := by
  show [sL (if a = i then s else t.nm a), iL (if a = i then nu else t.nu a), iL (if a = i then ti else t.ti a), iL (if a = i then va else t.va a)].getD b .un = _
  rw [if_neg h, if_neg h, if_neg h, if_neg h]
  rfl
theorem cM_eq (t : Tl) (n' i : Nat) (s : ByteArray) (nu ti va mn : Int) (b : Nat) : cM (t.put n' i s nu ti va mn) i b = [sL s, iL nu, iL ti, iL va].getD b .un := by
  show [sL (if i = i then s else t.nm i), iL (if i = i then nu else t.nu i), iL (if i = i then ti else t.ti i), iL (if i = i then va else t.va i)].getD b .un = _
  rw [if_pos rfl, if_pos rfl, if_pos rfl, if_pos rfl]
def tlInv (t : Tl) (i : Nat) : Prop := t.n ≤ 24 ∧ ∀ k, k < t.n → 1 ≤ t.nu k ∧ t.nu k ≤ 1000000 ∧ 0 ≤ t.ti k ∧ t.ti k ≤ 200000 ∧ 1 ≤ t.mn k ∧ t.mn k ≤ i
theorem tlInv.same {t : Tl} {i : Nat} (h : tlInv t i) : tlInv t (i + 1) := ⟨h.1, fun k hk => by have := h.2 k hk; omega⟩
theorem tlInv.put {t : Tl} {i n' j : Nat} (h : tlInv t i) {s : ByteArray} {nu ti va mn : Int} (h0 : msE s nu ti va = 0) (hn : n' ≤ 24) (hj : ∀ k, k < n' → k ≠ j → k < t.n) (hm : 1 ≤ mn ∧ mn ≤ i + 1) : tlInv (t.put n' j s nu ti va mn) (i + 1) := ⟨hn, fun k hk => by
  have ho := msE_ok h0
  show 1 ≤ (if k = j then nu else t.nu k) ∧ (if k = j then nu else t.nu k) ≤ 1000000 ∧ 0 ≤ (if k = j then ti else t.ti k) ∧ (if k = j then ti else t.ti k) ≤ 200000 ∧ 1 ≤ (if k = j then mn else t.mn k) ∧ (if k = j then mn else t.mn k) ≤ ((i + 1 : Nat) : Int)
  by_cases e : k = j
  · simp only [if_pos e]; omega
  · simp only [if_neg e]
    have := h.2 k (hj k hk e)
    omega⟩
def ordTL : Ord := fun id => if id = 26 then some (.go 0 (.go 4 (.go 5 (.fork (.alt 1 (.fork (.alt 2 (.fork (.alt 3 (.go 6 (.go 7 (.go 8 (.go 9 (.go 10 (.go 11 (.done))))))) (.alt 6 (.go 7 (.fork (.alt 3 (.go 8 (.go 9 (.go 10 (.go 11 (.done))))) (.alt 8 (.go 3 (.go 9 (.go 10 (.go 11 (.done))))) (.none))))) (.none)))) (.alt 6 (.go 7 (.fork (.alt 2 (.fork (.alt 3 (.go 8 (.go 9 (.go 10 (.go 11 (.done))))) (.alt 8 (.go 3 (.go 9 (.go 10 (.go 11 (.done))))) (.none)))) (.alt 8 (.go 2 (.go 3 (.go 9 (.go 10 (.go 11 (.done)))))) (.none))))) (.none)))) (.alt 6 (.go 7 (.fork (.alt 1 (.fork (.alt 2 (.fork (.alt 3 (.go 8 (.go 9 (.go 10 (.go 11 (.done))))) (.alt 8 (.go 3 (.go 9 (.go 10 (.go 11 (.done))))) (.none)))) (.alt 8 (.go 2 (.go 3 (.go 9 (.go 10 (.go 11 (.done)))))) (.none)))) (.alt 8 (.go 1 (.go 2 (.go 3 (.go 9 (.go 10 (.go 11 (.done))))))) (.none))))) (.none))))))) else none
set_option maxHeartbeats 8000000 in
theorem tlLaw (age : Int) (X : Tl) (s : ByteArray) (now : Int) (hn : X.n ≤ maxLen) (hs : s.size ≤ maxLen) (hX : ∀ k, k < X.n → (X.nm k).size ≤ maxLen) : Fn1 Try.prog 8 [intV age,   .c (.sl 4 X.n (cM X)), strV s, intV now] (boolV true) := by
  refine fn_of_wpx (O := ordTL) tab_ok gamTL_ok mixed Try.func8 (by kernel_rfl) rfl rfl rfl (by simp [Try.ntmps8]) (by kernel_rfl) ?_
  conv => whnf
  repeat' (first
    | (refine NilG.mk fun bn hbn hbx => ?_; conv => whnf)
    | (refine Both.mk ?_ ?_ <;> conv => whnf)
    | exact trivial
    | (refine Br.mk (fun hb => ?_) (fun hb => ?_) <;> (first | (exfalso; revert hb; decide) | ((try simp only [BL] at hb) <;> (try simp only [DL] at hb) <;> conv => whnf)))
    | (refine And.intro ?_ ?_; (focus (first | exact id | exact rfl | exact trivial | (intro hg; first | exact hg | exact rfl | (simp; done) | (simp at hg ⊢; assumption)) | omega | decide | exact is2_c _ _ _ | exact is1_c _ _ | exact isS_c _ _ | exact isB_c _ _ | exact Nat.le_refl _ | assumption | exact mulLe (by decide) (by omega) | exact mulLe2 (by decide) (by omega) (by omega) | (intros; simp only [BL] at *; omega) | (intros; (try simp only [BL] at *); (try simp only [DL] at *); omega) | (intros; simp only [BL] at *; rw [wr_id (by omega) (by omega)]; omega) | (intro h1 h2; exact Bool.and_eq_true_iff.2 ⟨h1, h2⟩) | (intros; simp_all; done))); conv => whnf)
    | (refine Or.inr (And.intro rfl ?_); first | (refine congrArg intV ?_) | (refine congrArg boolV ?_) | (refine tupII ?_ ?_) | (refine tupIII ?_ ?_ ?_) | (refine tupU ?_ ?_ ?_ ?_ ?_) | exact rfl))
  refine CallG.mk (Fn.mono (tlNew 10) ?_)
  rintro obs r (⟨h, -⟩ | ⟨-, rfl, rfl⟩)
  · exact absurd h (by decide)
  conv => whnf
  repeat' (first
    | (refine NilG.mk fun bn hbn hbx => ?_; conv => whnf)
    | (refine Both.mk ?_ ?_ <;> conv => whnf)
    | exact trivial
    | (refine Br.mk (fun hb => ?_) (fun hb => ?_) <;> (first | (exfalso; revert hb; decide) | ((try simp only [BL] at hb) <;> (try simp only [DL] at hb) <;> conv => whnf)))
    | (refine And.intro ?_ ?_; (focus (first | exact id | exact rfl | exact trivial | (intro hg; first | exact hg | exact rfl | (simp; done) | (simp at hg ⊢; assumption)) | omega | decide | exact is2_c _ _ _ | exact is1_c _ _ | exact isS_c _ _ | exact isB_c _ _ | exact Nat.le_refl _ | assumption | exact mulLe (by decide) (by omega) | exact mulLe2 (by decide) (by omega) (by omega) | (intros; simp only [BL] at *; omega) | (intros; (try simp only [BL] at *); (try simp only [DL] at *); omega) | (intros; simp only [BL] at *; rw [wr_id (by omega) (by omega)]; omega) | (intro h1 h2; exact Bool.and_eq_true_iff.2 ⟨h1, h2⟩) | (intros; simp_all; done))); conv => whnf)
    | (refine Or.inr (And.intro rfl ?_); first | (refine congrArg intV ?_) | (refine congrArg boolV ?_) | (refine tupII ?_ ?_) | (refine tupIII ?_ ?_ ?_) | (refine tupU ?_ ?_ ?_ ?_ ?_) | exact rfl))
  have hO : OLeL [ptB 10, ptR0] [ptB 10, ptR T0] := ⟨OLe.refl _, OLe.row (fun k hk => absurd hk (Nat.not_lt_zero k)) (fun h => by cases h), trivial⟩
  have f2 : vlE 10 (tlOf T1.n (cP T1)) ⟨#[65]⟩ 111 = (7, 1, 0) := fact2
  have hN : (min (X.n : Int) 25).toNat - Int.toNat 0 = min X.n 25 := by have : Int.toNat 0 = 0 := rfl; omega
  have hf : (fun k j => cM X (Int.toNat 0 + k) j) = cM X := by
    funext k j
    rw [show Int.toNat 0 + k = k by have : Int.toNat 0 = 0 := rfl; omega]
  have hn' : X.n ≤ 9223372036854775807 := hn
  obtain ⟨N, eN⟩ : ∃ N, N = min X.n 25 := ⟨_, rfl⟩
  rw [← eN] at hN
  apply shareP (0 ≤ age ∧ age ≤ 200000)
  · intro key
    refine CallG.wr [1, 2] rfl (FnM.mono ((tlTake 10 T0 bA 3 100 7 (by decide) (by decide) (fun k hk => absurd hk (Nat.not_lt_zero k))).leO hO) ?_)
    rintro obs r ⟨rfl, ⟨-, rfl⟩ | ⟨-, rfl⟩⟩
    iterate 2
      · rw [fact1]
        conv => whnf
        repeat' (first
          | (refine NilG.mk fun bn hbn hbx => ?_; conv => whnf)
          | (refine Both.mk ?_ ?_ <;> conv => whnf)
          | exact trivial
          | (refine Br.mk (fun hb => ?_) (fun hb => ?_) <;> (first | (exfalso; revert hb; decide) | ((try simp only [BL] at hb) <;> (try simp only [DL] at hb) <;> conv => whnf)))
          | (refine And.intro ?_ ?_; (focus (first | exact id | exact rfl | exact trivial | (intro hg; first | exact hg | exact rfl | (simp; done) | (simp at hg ⊢; assumption)) | omega | decide | exact is2_c _ _ _ | exact is1_c _ _ | exact isS_c _ _ | exact isB_c _ _ | exact Nat.le_refl _ | assumption | exact mulLe (by decide) (by omega) | exact mulLe2 (by decide) (by omega) (by omega) | (intros; simp only [BL] at *; omega) | (intros; (try simp only [BL] at *); (try simp only [DL] at *); omega) | (intros; simp only [BL] at *; rw [wr_id (by omega) (by omega)]; omega) | (intro h1 h2; exact Bool.and_eq_true_iff.2 ⟨h1, h2⟩) | exact ⟨good1, fun _ _ _ _ => rfl⟩ | (intros; simp_all; done))); conv => whnf)
          | (refine Or.inr (And.intro rfl ?_); first | (refine congrArg intV ?_) | (refine congrArg boolV ?_) | (refine tupII ?_ ?_) | (refine tupIII ?_ ?_ ?_) | (refine tupU ?_ ?_ ?_ ?_ ?_) | exact rfl))
        · exfalso
          rw [f2] at hb
          simp at hb
        refine CallG.mk (Fn.mono (tlNew age) ?_)
        rintro obs r (⟨h, rfl, rfl⟩ | ⟨h, rfl, rfl⟩)
        · conv => whnf
          repeat' (first
            | (refine NilG.mk fun bn hbn hbx => ?_; conv => whnf)
            | (refine Both.mk ?_ ?_ <;> conv => whnf)
            | exact trivial
            | (refine Br.mk (fun hb => ?_) (fun hb => ?_) <;> (first | (exfalso; revert hb; decide) | ((try simp only [BL] at hb) <;> (try simp only [DL] at hb) <;> conv => whnf)))
            | (refine And.intro ?_ ?_; (focus (first | exact id | exact rfl | exact trivial | (intro hg; first | exact hg | exact rfl | (simp; done) | (simp at hg ⊢; assumption)) | omega | decide | exact is2_c _ _ _ | exact is1_c _ _ | exact isS_c _ _ | exact isB_c _ _ | exact Nat.le_refl _ | assumption | exact mulLe (by decide) (by omega) | exact mulLe2 (by decide) (by omega) (by omega) | (intros; simp only [BL] at *; omega) | (intros; (try simp only [BL] at *); (try simp only [DL] at *); omega) | (intros; simp only [BL] at *; rw [wr_id (by omega) (by omega)]; omega) | (intro h1 h2; exact Bool.and_eq_true_iff.2 ⟨h1, h2⟩) | (intros; simp_all; done))); conv => whnf)
            | (refine Or.inr (And.intro rfl ?_); first | (refine congrArg intV ?_) | (refine congrArg boolV ?_) | (refine tupII ?_ ?_) | (refine tupIII ?_ ?_ ?_) | (refine tupU ?_ ?_ ?_ ?_ ?_) | exact rfl))
          · rfl
          · exfalso; omega
        · conv => whnf
          repeat' (first
            | (refine NilG.mk fun bn hbn hbx => ?_; conv => whnf)
            | (refine Both.mk ?_ ?_ <;> conv => whnf)
            | exact trivial
            | (refine Br.mk (fun hb => ?_) (fun hb => ?_) <;> (first | (exfalso; revert hb; decide) | ((try simp only [BL] at hb) <;> (try simp only [DL] at hb) <;> conv => whnf)))
            | (refine And.intro ?_ ?_; (focus (first | exact id | exact rfl | exact trivial | (intro hg; first | exact hg | exact rfl | (simp; done) | (simp at hg ⊢; assumption)) | omega | decide | exact is2_c _ _ _ | exact is1_c _ _ | exact isS_c _ _ | exact isB_c _ _ | exact Nat.le_refl _ | assumption | exact mulLe (by decide) (by omega) | exact mulLe2 (by decide) (by omega) (by omega) | (intros; simp only [BL] at *; omega) | (intros; (try simp only [BL] at *); (try simp only [DL] at *); omega) | (intros; simp only [BL] at *; rw [wr_id (by omega) (by omega)]; omega) | (intro h1 h2; exact Bool.and_eq_true_iff.2 ⟨h1, h2⟩) | (intros; simp_all; done))); conv => whnf)
            | (refine Or.inr (And.intro rfl ?_); first | (refine congrArg intV ?_) | (refine congrArg boolV ?_) | (refine tupII ?_ ?_) | (refine tupIII ?_ ?_ ?_) | (refine tupU ?_ ?_ ?_ ?_ ?_) | exact rfl))
          · exfalso; omega
          rw [hN, hf]
          refine LoopG.nil 15 101 4 rfl ?_
          refine LoopG.nil 16 3 1 rfl ?_
          refine LoopG.sub (S' := ⟨[(0, intV age), (3, intV now), (6, .lp 0 0), (14, .lp 1 0), (15, .own 3), (16, .own 4), (84, .c (.sl 4 N (cM X))), (85, intV N), (86, intV 0)], [.box [strV s], .box [intV age, .own 2], ptR T0, ptL T0, gpR T0]⟩) (key.v ⟨by omega, by omega⟩) ?_
          refine ⟨0, [?_, ?_, ?_, ?_, ?_], trivial, by decide, ?_⟩
          rotate_left 5
          refine Sub.of ?_ ?_ ?_
          repeat' (first | (refine And.intro ?_ ?_) | exact trivial | exact fun _ _ _ => hsc _ _ | (exact congrArg intV (by first | with_reducible rfl | with_reducible assumption)) | exact (rfl : AV.idsLt _ _ = true) | exact (rfl : _ = AV.ren _ (.own _)) | exact (rfl : _ = AV.ren _ (.fn _ _)) | exact (rfl : _ = AV.ren _ (.gh _)) | (exact congrArg intV (by assumption)) | (refine congrArg intV ((wr_id (by omega) (by omega)).trans (by omega))) | exact rfl | (simp only [Int.toNat_natCast, Int.toNat_zero, Nat.sub_zero, Nat.zero_add]; first | exact rfl | done) | exact all0 | exact fun h => Bool.noConfusion h | exact fun _ _ _ _ => rfl | omega)
  · intro hage
    have hN25 : N ≤ 25 ∧ N ≤ X.n := by omega
    clear hO f2 hf hN eN
    refine sem_loop tab_ok gamTL_ok mixed (by kernel_rfl) (O := ordTL) (fun x : Nat × Tl => ⟨[(0, intV age), (3, intV now), (6, .lp 0 0), (14, .lp 1 0), (15, .own 3), (16, .own 4), (84, .c (.sl 4 N (cM X))), (85, intV N), (86, intV x.1)], [.box [strV s], .box [intV age, .own 2], ptR x.2, ptL x.2, gpR x.2]⟩) (fun x => x.1 ≤ N ∧ tlInv x.2 x.1) (fun x => N - x.1) ⟨(0, T0), [?_, ?_, ?_, ?_, ?_], ⟨Nat.zero_le _, by decide, fun k hk => absurd hk (Nat.not_lt_zero k)⟩, ?_⟩ fun y hy => ?_
    rotate_left 5
    · refine Sub.of ?_ ?_ ?_
      repeat' (first | (refine And.intro ?_ ?_) | exact trivial | exact fun _ _ _ => hsc _ _ | (exact congrArg intV (by first | with_reducible rfl | with_reducible assumption)) | exact (rfl : AV.idsLt _ _ = true) | exact (rfl : _ = AV.ren _ (.own _)) | exact (rfl : _ = AV.ren _ (.fn _ _)) | exact (rfl : _ = AV.ren _ (.gh _)) | (exact congrArg intV (by assumption)) | (refine congrArg intV ((wr_id (by omega) (by omega)).trans (by omega))) | exact rfl | (simp only [Int.toNat_natCast, Int.toNat_zero, Nat.sub_zero, Nat.zero_add]; first | exact rfl | done) | exact all0 | exact fun h => Bool.noConfusion h | exact fun _ _ _ _ => rfl | omega)
    obtain ⟨i, t⟩ := y
    obtain ⟨hiN, hi24, hik⟩ := hy
    dsimp only at hiN hi24 hik ⊢
    have hinv : tlInv t i := ⟨hi24, hik⟩
    conv => whnf
    repeat' (first
      | (refine NilG.mk fun bn hbn hbx => ?_; conv => whnf)
      | (refine Both.mk ?_ ?_ <;> conv => whnf)
      | exact trivial
      | (refine Br.mk (fun hb => ?_) (fun hb => ?_) <;> (first | (exfalso; revert hb; decide) | ((try simp only [BL] at hb) <;> (try simp only [DL] at hb) <;> conv => whnf)))
      | (refine And.intro ?_ ?_; (focus (first | exact id | exact rfl | exact trivial | (intro hg; first | exact hg | exact rfl | (simp; done) | (simp at hg ⊢; assumption)) | omega | decide | exact is2_c _ _ _ | exact is1_c _ _ | exact isS_c _ _ | exact isB_c _ _ | exact Nat.le_refl _ | assumption | exact mulLe (by decide) (by omega) | exact mulLe2 (by decide) (by omega) (by omega) | (intros; simp only [BL] at *; omega) | (intros; (try simp only [BL] at *); (try simp only [DL] at *); omega) | (intros; simp only [BL] at *; rw [wr_id (by omega) (by omega)]; omega) | (intro h1 h2; exact Bool.and_eq_true_iff.2 ⟨h1, h2⟩) | (intros; simp_all; done))); conv => whnf)
      | (refine Or.inr (And.intro rfl ?_); first | (refine congrArg intV ?_) | (refine congrArg boolV ?_) | (refine tupII ?_ ?_) | (refine tupIII ?_ ?_ ?_) | (refine tupU ?_ ?_ ?_ ?_ ?_) | exact rfl))
    rotate_left
    · have hgood : tlGood t := ⟨hi24, fun k hk => by have := hik k hk; omega⟩
      have hfs := fidx_up (sameN t.nm s) t.n
      have hle : Le [AV.xp 2 fun z => [iL age, .sl 5 t.n (cP t)][0 + z]?.getD .un] [.xp 2 (ptF age t)] := Le.cons (Le1.xp fun z hz => by
        match z, hz with
        | 0, _ => exact LLe.refl _
        | 1, _ => exact LLe.refl _) Le.nil
      obtain ⟨fi, hfi⟩ : ∃ fi, ffind (sameN t.nm s) t.n = fi := ⟨_, rfl⟩
      refine And.intro ⟨hgood, fun _ _ _ _ => rfl⟩ ?_
      conv => whnf
      repeat' (first
        | (refine NilG.mk fun bn hbn hbx => ?_; conv => whnf)
        | (refine Both.mk ?_ ?_ <;> conv => whnf)
        | exact trivial
        | (refine Br.mk (fun hb => ?_) (fun hb => ?_) <;> (first | (exfalso; revert hb; decide) | ((try simp only [BL] at hb) <;> (try simp only [DL] at hb) <;> conv => whnf)))
        | (refine And.intro ?_ ?_; (focus (first | exact id | exact rfl | exact trivial | (intro hg; first | exact hg | exact rfl | (simp; done) | (simp at hg ⊢; assumption)) | omega | decide | exact is2_c _ _ _ | exact is1_c _ _ | exact isS_c _ _ | exact isB_c _ _ | exact Nat.le_refl _ | assumption | exact mulLe (by decide) (by omega) | exact mulLe2 (by decide) (by omega) (by omega) | (intros; simp only [BL] at *; omega) | (intros; (try simp only [BL] at *); (try simp only [DL] at *); omega) | (intros; simp only [BL] at *; rw [wr_id (by omega) (by omega)]; omega) | (intro h1 h2; exact Bool.and_eq_true_iff.2 ⟨h1, h2⟩) | exact ⟨hgood, fun _ _ _ _ => rfl⟩ | (intros; simp_all; done))); conv => whnf)
        | (refine Or.inr (And.intro rfl ?_); first | (refine congrArg intV ?_) | (refine congrArg boolV ?_) | (refine tupII ?_ ?_) | (refine tupIII ?_ ?_ ?_) | (refine tupU ?_ ?_ ?_ ?_ ?_) | exact rfl))
      refine CallG.mk (Fn.mono (tlIdx2 t s (by omega)) ?_)
      rintro obs r ⟨rfl, rfl⟩
      rcases fi with _ | j
      · have hx : fidx (sameN t.nm s) t.n = -1 := by unfold fidx; rw [hfi]
        have hsk : skE t s = (0, 8) := by unfold skE; rw [hfi]
        have hsk' : skE (tlOf t.n (cP t)) s = (0, 8) := hsk
        have k1 : (skE (tlOf t.n (cP t)) s).1 = 0 := by rw [hsk']
        have k2 : (skE (tlOf t.n (cP t)) s).2 = 8 := by rw [hsk']
        conv => whnf
        repeat' (first
          | (refine NilG.mk fun bn hbn hbx => ?_; conv => whnf)
          | (refine Both.mk ?_ ?_ <;> conv => whnf)
          | exact trivial
          | (refine Br.mk (fun hb => ?_) (fun hb => ?_) <;> (first | (exfalso; revert hb; decide) | ((try simp only [BL] at hb) <;> (try simp only [DL] at hb) <;> (first | (exfalso; omega) | (conv => whnf)))))
          | (refine And.intro ?_ ?_; (focus (first | exact id | exact rfl | exact trivial | (intro hg; first | exact hg | exact rfl | (simp; done) | (simp at hg ⊢; assumption)) | omega | decide | exact is2_c _ _ _ | exact is1_c _ _ | exact isS_c _ _ | exact isB_c _ _ | exact Nat.le_refl _ | assumption | exact mulLe (by decide) (by omega) | exact mulLe2 (by decide) (by omega) (by omega) | (intros; simp only [BL] at *; omega) | (intros; (try simp only [BL] at *); (try simp only [DL] at *); omega) | (intros; simp only [BL] at *; rw [wr_id (by omega) (by omega)]; omega) | (intro h1 h2; exact Bool.and_eq_true_iff.2 ⟨h1, h2⟩) | exact fun hg => (by simp only [BL] at hg; omega) | (intros; simp_all; done))); conv => whnf)
          | (refine Or.inr (And.intro rfl ?_); first | (refine congrArg intV ?_) | (refine congrArg boolV ?_) | (refine tupII ?_ ?_) | (refine tupIII ?_ ?_ ?_) | (refine tupU ?_ ?_ ?_ ?_ ?_) | exact rfl))
        refine And.intro (fun _ => ?_) (fun hg => ?_)
        · conv => whnf
          repeat' (first
            | (refine NilG.mk fun bn hbn hbx => ?_; conv => whnf)
            | (refine Both.mk ?_ ?_ <;> conv => whnf)
            | exact trivial
            | (refine Br.mk (fun hb => ?_) (fun hb => ?_) <;> (first | (exfalso; revert hb; decide) | ((try simp only [BL] at hb) <;> (try simp only [DL] at hb) <;> conv => whnf)))
            | (refine And.intro ?_ ?_; (focus (first | exact id | exact rfl | exact trivial | (intro hg; first | exact hg | exact rfl | (simp; done) | (simp at hg ⊢; assumption)) | omega | decide | exact is2_c _ _ _ | exact is1_c _ _ | exact isS_c _ _ | exact isB_c _ _ | exact Nat.le_refl _ | assumption | exact mulLe (by decide) (by omega) | exact mulLe2 (by decide) (by omega) (by omega) | (intros; simp only [BL] at *; omega) | (intros; (try simp only [BL] at *); (try simp only [DL] at *); omega) | (intros; simp only [BL] at *; rw [wr_id (by omega) (by omega)]; omega) | (intro h1 h2; exact Bool.and_eq_true_iff.2 ⟨h1, h2⟩) | (intros; simp_all; done))); conv => whnf)
            | (refine Or.inr (And.intro rfl ?_); first | (refine congrArg intV ?_) | (refine congrArg boolV ?_) | (refine tupII ?_ ?_) | (refine tupIII ?_ ?_ ?_) | (refine tupU ?_ ?_ ?_ ?_ ?_) | exact rfl))
          refine CallG.mk (Fn.mono ((tlList age t hi24).le hle) ?_)
          rintro obs r ⟨rfl, g, rfl⟩
          conv => whnf
          repeat' (first
            | (refine NilG.mk fun bn hbn hbx => ?_; conv => whnf)
            | (refine Both.mk ?_ ?_ <;> conv => whnf)
            | exact trivial
            | (refine Br.mk (fun hb => ?_) (fun hb => ?_) <;> (first | (exfalso; revert hb; decide) | ((try simp only [BL] at hb) <;> (try simp only [DL] at hb) <;> (first | (exfalso; omega) | (conv => whnf)))))
            | (refine And.intro ?_ ?_; (focus (first | exact id | exact rfl | exact trivial | (intro hg; first | exact hg | exact rfl | (simp; done) | (simp at hg ⊢; assumption)) | omega | decide | exact is2_c _ _ _ | exact is1_c _ _ | exact isS_c _ _ | exact isB_c _ _ | exact Nat.le_refl _ | assumption | exact mulLe (by decide) (by omega) | exact mulLe2 (by decide) (by omega) (by omega) | (intros; simp only [BL] at *; omega) | (intros; (try simp only [BL] at *); (try simp only [DL] at *); omega) | (intros; simp only [BL] at *; rw [wr_id (by omega) (by omega)]; omega) | (intro h1 h2; exact Bool.and_eq_true_iff.2 ⟨h1, h2⟩) | exact fun hg => (by simp only [BL] at hg; omega) | (intros; simp_all; done))); conv => whnf)
            | (refine Or.inr (And.intro rfl ?_); first | (refine congrArg intV ?_) | (refine congrArg boolV ?_) | (refine tupII ?_ ?_) | (refine tupIII ?_ ?_ ?_) | (refine tupU ?_ ?_ ?_ ?_ ?_) | exact rfl))
          · exfalso
            rw [hx, hsk'] at hb
            simp at hb
          · have hv : vlE age (tlOf t.n (cP t)) s now = (0, 0, 12) := vl1 (by omega)
            rw [hv]
            rfl
          · have hv : vlE age (tlOf t.n (cP t)) s now = (0, 2, 0) := vl2 hfi (by omega)
            rw [hv]
            rfl
        · exfalso
          rw [hx, hsk'] at hg
          first | (simp at hg; done) | (simp at hg; omega)
      · have hx : fidx (sameN t.nm s) t.n = j := by unfold fidx; rw [hfi]
        have hsk : skE t s = (t.nu j - t.mn j, 0) := by unfold skE; rw [hfi]
        have hsk' : skE (tlOf t.n (cP t)) s = (t.nu j - t.mn j, 0) := hsk
        have k1 : (skE (tlOf t.n (cP t)) s).1 = t.nu j - t.mn j := by rw [hsk']
        have k2 : (skE (tlOf t.n (cP t)) s).2 = 0 := by rw [hsk']
        have k3 : (fidx (sameN t.nm s) t.n).toNat = j := by rw [hx]; rfl
        have k4 := hik j (by omega)
        conv => whnf
        repeat' (first
          | (refine NilG.mk fun bn hbn hbx => ?_; conv => whnf)
          | (refine Both.mk ?_ ?_ <;> conv => whnf)
          | exact trivial
          | (refine Br.mk (fun hb => ?_) (fun hb => ?_) <;> (first | (exfalso; revert hb; decide) | ((try simp only [BL] at hb) <;> (try simp only [DL] at hb) <;> (first | (exfalso; omega) | (conv => whnf)))))
          | (refine And.intro ?_ ?_; (focus (first | exact id | exact rfl | exact trivial | (intro hg; first | exact hg | exact rfl | (simp; done) | (simp at hg ⊢; assumption)) | omega | decide | exact is2_c _ _ _ | exact is1_c _ _ | exact isS_c _ _ | exact isB_c _ _ | exact Nat.le_refl _ | assumption | exact mulLe (by decide) (by omega) | exact mulLe2 (by decide) (by omega) (by omega) | (intros; simp only [BL] at *; omega) | (intros; (try simp only [BL] at *); (try simp only [DL] at *); omega) | (intros; simp only [BL] at *; rw [wr_id (by omega) (by omega)]; omega) | (intro h1 h2; exact Bool.and_eq_true_iff.2 ⟨h1, h2⟩) | exact fun hg => (by simp only [BL] at hg; omega) | (intros; simp_all; done))); conv => whnf)
          | (refine Or.inr (And.intro rfl ?_); first | (refine congrArg intV ?_) | (refine congrArg boolV ?_) | (refine tupII ?_ ?_) | (refine tupIII ?_ ?_ ?_) | (refine tupU ?_ ?_ ?_ ?_ ?_) | exact rfl))
        refine And.intro (fun _ => ?_) (fun hg => ?_)
        · conv => whnf
          repeat' (first
            | (refine NilG.mk fun bn hbn hbx => ?_; conv => whnf)
            | (refine Both.mk ?_ ?_ <;> conv => whnf)
            | exact trivial
            | (refine Br.mk (fun hb => ?_) (fun hb => ?_) <;> (first | (exfalso; revert hb; decide) | ((try simp only [BL] at hb) <;> (try simp only [DL] at hb) <;> conv => whnf)))
            | (refine And.intro ?_ ?_; (focus (first | exact id | exact rfl | exact trivial | (intro hg; first | exact hg | exact rfl | (simp; done) | (simp at hg ⊢; assumption)) | omega | decide | exact is2_c _ _ _ | exact is1_c _ _ | exact isS_c _ _ | exact isB_c _ _ | exact Nat.le_refl _ | assumption | exact mulLe (by decide) (by omega) | exact mulLe2 (by decide) (by omega) (by omega) | (intros; simp only [BL] at *; omega) | (intros; (try simp only [BL] at *); (try simp only [DL] at *); omega) | (intros; simp only [BL] at *; rw [wr_id (by omega) (by omega)]; omega) | (intro h1 h2; exact Bool.and_eq_true_iff.2 ⟨h1, h2⟩) | (intros; simp_all; done))); conv => whnf)
            | (refine Or.inr (And.intro rfl ?_); first | (refine congrArg intV ?_) | (refine congrArg boolV ?_) | (refine tupII ?_ ?_) | (refine tupIII ?_ ?_ ?_) | (refine tupU ?_ ?_ ?_ ?_ ?_) | exact rfl))
          refine CallG.mk (Fn.mono ((tlList age t hi24).le hle) ?_)
          rintro obs r ⟨rfl, g, rfl⟩
          conv => whnf
          repeat' (first
            | (refine NilG.mk fun bn hbn hbx => ?_; conv => whnf)
            | (refine Both.mk ?_ ?_ <;> conv => whnf)
            | exact trivial
            | (refine Br.mk (fun hb => ?_) (fun hb => ?_) <;> (first | (exfalso; revert hb; decide) | ((try simp only [BL] at hb) <;> (try simp only [DL] at hb) <;> (first | (exfalso; omega) | (conv => whnf)))))
            | (refine And.intro ?_ ?_; (focus (first | exact id | exact rfl | exact trivial | (intro hg; first | exact hg | exact rfl | (simp; done) | (simp at hg ⊢; assumption)) | omega | decide | exact is2_c _ _ _ | exact is1_c _ _ | exact isS_c _ _ | exact isB_c _ _ | exact Nat.le_refl _ | assumption | exact mulLe (by decide) (by omega) | exact mulLe2 (by decide) (by omega) (by omega) | (intros; simp only [BL] at *; omega) | (intros; (try simp only [BL] at *); (try simp only [DL] at *); omega) | (intros; simp only [BL] at *; rw [wr_id (by omega) (by omega)]; omega) | (intro h1 h2; exact Bool.and_eq_true_iff.2 ⟨h1, h2⟩) | exact fun hg => (by simp only [BL] at hg; omega) | (intros; simp_all; done))); conv => whnf)
            | (refine Or.inr (And.intro rfl ?_); first | (refine congrArg intV ?_) | (refine congrArg boolV ?_) | (refine tupII ?_ ?_) | (refine tupIII ?_ ?_ ?_) | (refine tupU ?_ ?_ ?_ ?_ ?_) | exact rfl))
          · exfalso
            rw [hx, hsk'] at hb
            first | (simp at hb; done) | (simp at hb; omega)
          · have hv : vlE age (tlOf t.n (cP t)) s now = (0, 0, 12) := vl1 (by omega)
            rw [hv]
            rfl
          · rw [k3] at hb
            have hv : vlE age (tlOf t.n (cP t)) s now = (0, 0, 12) := vl3 hfi (by omega) hb
            rw [hv]
            rfl
          · rename_i g1 g2 g3
            rw [k3] at g3 hb ⊢
            rw [wr_id (x := t.ti j + age) (by omega) (by omega)] at hb
            have hv : vlE age (tlOf t.n (cP t)) s now = (t.va j, 1, 0) := vl5 (t := t) hfi (by omega) g3 (by omega)
            rw [hv]
            show ((0 : Int) == 0 && t.va j == t.va j && (1 : Int) == 1) = true
            simp
          · rename_i g1 g2 g3
            rw [k3] at g3 hb ⊢
            rw [wr_id (x := t.ti j + age) (by omega) (by omega)] at hb
            have hv : vlE age (tlOf t.n (cP t)) s now = (t.va j, 0, 0) := vl4 (t := t) hfi (by omega) g3 (by omega)
            rw [hv]
            show ((0 : Int) == 0 && t.va j == t.va j && (0 : Int) == 0) = true
            simp
        · exfalso
          rw [hx, hsk'] at hg
          first | (simp at hg; done) | (simp at hg; omega)
    have hfu := fidx_up (sameN t.nm (X.nm i)) t.n
    rcases tk_cases t (X.nm i) (X.nu i) (X.ti i) (X.va i) with ⟨h0, hK⟩ | ⟨h0, h1, h2, hK⟩ | ⟨h0, h1, h2, hK⟩ | ⟨h0, h1, h2, hK⟩ | ⟨h0, h1, h2, h3, hK⟩ | ⟨h0, h1, h2, h3, hK⟩
    · refine CallG.wr [1, 2] rfl (FnM.mono (tlTake age t (X.nm i) (X.nu i) (X.ti i) (X.va i) (hX i (by omega)) hi24 (fun k hk => by have := hik k hk; omega)) ?_)
      rintro obs r ⟨rfl, ⟨hd, rfl⟩ | ⟨hd, rfl⟩⟩
      rotate_left
      · exact absurd (congrArg (fun z => z.1.n) hK) hd
      rw [hK]
      conv => whnf
      repeat' (first
        | (refine NilG.mk fun bn hbn hbx => ?_; conv => whnf)
        | (refine Both.mk ?_ ?_ <;> conv => whnf)
        | exact trivial
        | (refine Br.mk (fun hb => ?_) (fun hb => ?_) <;> (first | (exfalso; revert hb; decide) | ((try simp only [BL] at hb) <;> (try simp only [DL] at hb) <;> conv => whnf)))
        | (refine And.intro ?_ ?_; (focus (first | exact id | exact rfl | exact trivial | (intro hg; first | exact hg | exact rfl | (simp; done) | (simp at hg ⊢; assumption)) | omega | decide | exact is2_c _ _ _ | exact is1_c _ _ | exact isS_c _ _ | exact isB_c _ _ | exact Nat.le_refl _ | assumption | exact mulLe (by decide) (by omega) | exact mulLe2 (by decide) (by omega) (by omega) | (intros; simp only [BL] at *; omega) | (intros; (try simp only [BL] at *); (try simp only [DL] at *); omega) | (intros; simp only [BL] at *; rw [wr_id (by omega) (by omega)]; omega) | (intro h1 h2; exact Bool.and_eq_true_iff.2 ⟨h1, h2⟩) | (intros; simp_all; done))); conv => whnf)
        | (refine Or.inr (And.intro rfl ?_); first | (refine congrArg intV ?_) | (refine congrArg boolV ?_) | (refine tupII ?_ ?_) | (refine tupIII ?_ ?_ ?_) | (refine tupU ?_ ?_ ?_ ?_ ?_) | exact rfl))
      refine CallG.mk (Fn.mono (tlIdx1 t (X.nm i) (X.nu i) (X.ti i) (X.va i) (by omega)) ?_)
      rintro obs r ⟨rfl, rfl⟩
      conv => whnf
      repeat' (first
        | (refine NilG.mk fun bn hbn hbx => ?_; conv => whnf)
        | (refine Both.mk ?_ ?_ <;> conv => whnf)
        | exact trivial
        | (refine Br.mk (fun hb => ?_) (fun hb => ?_) <;> (first | (exfalso; revert hb; decide) | ((try simp only [BL] at hb) <;> (try simp only [DL] at hb) <;> (first | (exfalso; omega) | (conv => whnf)))))
        | (refine And.intro ?_ ?_; (focus (first | exact id | exact rfl | exact trivial | (intro hg; first | exact hg | exact rfl | (simp; done) | (simp at hg ⊢; assumption)) | omega | decide | exact is2_c _ _ _ | exact is1_c _ _ | exact isS_c _ _ | exact isB_c _ _ | exact Nat.le_refl _ | assumption | exact mulLe (by decide) (by omega) | exact mulLe2 (by decide) (by omega) (by omega) | (intros; simp only [BL] at *; omega) | (intros; (try simp only [BL] at *); (try simp only [DL] at *); omega) | (intros; simp only [BL] at *; rw [wr_id (by omega) (by omega)]; omega) | (intro h1 h2; exact Bool.and_eq_true_iff.2 ⟨h1, h2⟩) | first | exact hX i (by omega) | exact ⟨by omega, by omega⟩ | (intros; simp_all; done))); conv => whnf)
        | (refine Or.inr (And.intro rfl ?_); first | (refine congrArg intV ?_) | (refine congrArg boolV ?_) | (refine tupII ?_ ?_) | (refine tupIII ?_ ?_ ?_) | (refine tupU ?_ ?_ ?_ ?_ ?_) | exact rfl))
      all_goals first | (exfalso; rcases hb with hb | hb <;> first | exact hb trivial | omega) | skip
      refine ⟨(i + 1, t), [?_, ?_, ?_, ?_, ?_], ⟨by show i + 1 ≤ N; omega, hinv.same⟩, by show N - (i + 1) < N - i; omega, ?_⟩
      rotate_left 5
      refine Sub.of ?_ ?_ ?_
      repeat' (first | (refine And.intro ?_ ?_) | exact trivial | exact fun _ _ _ => hsc _ _ | (exact congrArg intV (by first | with_reducible rfl | with_reducible assumption)) | exact (rfl : AV.idsLt _ _ = true) | exact (rfl : _ = AV.ren _ (.own _)) | exact (rfl : _ = AV.ren _ (.fn _ _)) | exact (rfl : _ = AV.ren _ (.gh _)) | (exact congrArg intV (by assumption)) | (refine congrArg intV ((wr_id (by omega) (by omega)).trans (by omega))) | exact rfl | (simp only [Int.toNat_natCast, Int.toNat_zero, Nat.sub_zero, Nat.zero_add]; first | exact rfl | done) | exact all0 | exact fun h => Bool.noConfusion h | exact fun _ _ _ _ => rfl | omega)
    · refine CallG.wr [1, 2] rfl (FnM.mono (tlTake age t (X.nm i) (X.nu i) (X.ti i) (X.va i) (hX i (by omega)) hi24 (fun k hk => by have := hik k hk; omega)) ?_)
      rintro obs r ⟨rfl, ⟨hd, rfl⟩ | ⟨hd, rfl⟩⟩
      rotate_left
      · exact absurd (congrArg (fun z => z.1.n) hK) hd
      rw [hK]
      conv => whnf
      repeat' (first
        | (refine NilG.mk fun bn hbn hbx => ?_; conv => whnf)
        | (refine Both.mk ?_ ?_ <;> conv => whnf)
        | exact trivial
        | (refine Br.mk (fun hb => ?_) (fun hb => ?_) <;> (first | (exfalso; revert hb; decide) | ((try simp only [BL] at hb) <;> (try simp only [DL] at hb) <;> conv => whnf)))
        | (refine And.intro ?_ ?_; (focus (first | exact id | exact rfl | exact trivial | (intro hg; first | exact hg | exact rfl | (simp; done) | (simp at hg ⊢; assumption)) | omega | decide | exact is2_c _ _ _ | exact is1_c _ _ | exact isS_c _ _ | exact isB_c _ _ | exact Nat.le_refl _ | assumption | exact mulLe (by decide) (by omega) | exact mulLe2 (by decide) (by omega) (by omega) | (intros; simp only [BL] at *; omega) | (intros; (try simp only [BL] at *); (try simp only [DL] at *); omega) | (intros; simp only [BL] at *; rw [wr_id (by omega) (by omega)]; omega) | (intro h1 h2; exact Bool.and_eq_true_iff.2 ⟨h1, h2⟩) | (intros; simp_all; done))); conv => whnf)
        | (refine Or.inr (And.intro rfl ?_); first | (refine congrArg intV ?_) | (refine congrArg boolV ?_) | (refine tupII ?_ ?_) | (refine tupIII ?_ ?_ ?_) | (refine tupU ?_ ?_ ?_ ?_ ?_) | exact rfl))
      refine CallG.mk (Fn.mono (tlIdx1 t (X.nm i) (X.nu i) (X.ti i) (X.va i) (by omega)) ?_)
      rintro obs r ⟨rfl, rfl⟩
      conv => whnf
      repeat' (first
        | (refine NilG.mk fun bn hbn hbx => ?_; conv => whnf)
        | (refine Both.mk ?_ ?_ <;> conv => whnf)
        | exact trivial
        | (refine Br.mk (fun hb => ?_) (fun hb => ?_) <;> (first | (exfalso; revert hb; decide) | ((try simp only [BL] at hb) <;> (try simp only [DL] at hb) <;> (first | (exfalso; omega) | (conv => whnf)))))
        | (refine And.intro ?_ ?_; (focus (first | exact id | exact rfl | exact trivial | (intro hg; first | exact hg | exact rfl | (simp; done) | (simp at hg ⊢; assumption)) | omega | decide | exact is2_c _ _ _ | exact is1_c _ _ | exact isS_c _ _ | exact isB_c _ _ | exact Nat.le_refl _ | assumption | exact mulLe (by decide) (by omega) | exact mulLe2 (by decide) (by omega) (by omega) | (intros; simp only [BL] at *; omega) | (intros; (try simp only [BL] at *); (try simp only [DL] at *); omega) | (intros; simp only [BL] at *; rw [wr_id (by omega) (by omega)]; omega) | (intro h1 h2; exact Bool.and_eq_true_iff.2 ⟨h1, h2⟩) | first | exact hX i (by omega) | exact ⟨by omega, by omega⟩ | (intros; simp_all; done))); conv => whnf)
        | (refine Or.inr (And.intro rfl ?_); first | (refine congrArg intV ?_) | (refine congrArg boolV ?_) | (refine tupII ?_ ?_) | (refine tupIII ?_ ?_ ?_) | (refine tupU ?_ ?_ ?_ ?_ ?_) | exact rfl))
      all_goals first | (exfalso; rcases hb with hb | hb <;> first | exact hb trivial | omega) | skip
      refine ⟨(i + 1, t), [?_, ?_, ?_, ?_, ?_], ⟨by show i + 1 ≤ N; omega, hinv.same⟩, by show N - (i + 1) < N - i; omega, ?_⟩
      rotate_left 5
      refine Sub.of ?_ ?_ ?_
      repeat' (first | (refine And.intro ?_ ?_) | exact trivial | exact fun _ _ _ => hsc _ _ | (exact congrArg intV (by first | with_reducible rfl | with_reducible assumption)) | exact (rfl : AV.idsLt _ _ = true) | exact (rfl : _ = AV.ren _ (.own _)) | exact (rfl : _ = AV.ren _ (.fn _ _)) | exact (rfl : _ = AV.ren _ (.gh _)) | (exact congrArg intV (by assumption)) | (refine congrArg intV ((wr_id (by omega) (by omega)).trans (by omega))) | exact rfl | (simp only [Int.toNat_natCast, Int.toNat_zero, Nat.sub_zero, Nat.zero_add]; first | exact rfl | done) | exact all0 | exact fun h => Bool.noConfusion h | exact fun _ _ _ _ => rfl | omega)
    · refine CallG.wr [1, 2] rfl (FnM.mono (tlTake age t (X.nm i) (X.nu i) (X.ti i) (X.va i) (hX i (by omega)) hi24 (fun k hk => by have := hik k hk; omega)) ?_)
      rintro obs r ⟨rfl, ⟨hd, rfl⟩ | ⟨hd, rfl⟩⟩
      · exact absurd ((congrArg (fun z => z.1.n) hK).symm.trans hd) (Nat.succ_ne_self t.n)
      rw [hK]
      have w1 : IntKind.i64.wrap (X.nu i - 1) = X.nu i - 1 := wr_id (by have := msE_ok h0; omega) (by have := msE_ok h0; omega)
      conv => whnf
      repeat' (first
        | (refine NilG.mk fun bn hbn hbx => ?_; conv => whnf)
        | (refine Both.mk ?_ ?_ <;> conv => whnf)
        | exact trivial
        | (refine Br.mk (fun hb => ?_) (fun hb => ?_) <;> (first | (exfalso; revert hb; decide) | ((try simp only [BL] at hb) <;> (try simp only [DL] at hb) <;> conv => whnf)))
        | (refine And.intro ?_ ?_; (focus (first | exact id | exact rfl | exact trivial | (intro hg; first | exact hg | exact rfl | (simp; done) | (simp at hg ⊢; assumption)) | omega | decide | exact is2_c _ _ _ | exact is1_c _ _ | exact isS_c _ _ | exact isB_c _ _ | exact Nat.le_refl _ | assumption | exact mulLe (by decide) (by omega) | exact mulLe2 (by decide) (by omega) (by omega) | (intros; simp only [BL] at *; omega) | (intros; (try simp only [BL] at *); (try simp only [DL] at *); omega) | (intros; simp only [BL] at *; rw [wr_id (by omega) (by omega)]; omega) | (intro h1 h2; exact Bool.and_eq_true_iff.2 ⟨h1, h2⟩) | (intros; simp_all; done))); conv => whnf)
        | (refine Or.inr (And.intro rfl ?_); first | (refine congrArg intV ?_) | (refine congrArg boolV ?_) | (refine tupII ?_ ?_) | (refine tupIII ?_ ?_ ?_) | (refine tupU ?_ ?_ ?_ ?_ ?_) | exact rfl))
      refine CallG.mk (Fn.mono (tlIdx1 t (X.nm i) (X.nu i) (X.ti i) (X.va i) (by omega)) ?_)
      rintro obs r ⟨rfl, rfl⟩
      conv => whnf
      repeat' (first
        | (refine NilG.mk fun bn hbn hbx => ?_; conv => whnf)
        | (refine Both.mk ?_ ?_ <;> conv => whnf)
        | exact trivial
        | (refine Br.mk (fun hb => ?_) (fun hb => ?_) <;> (first | (exfalso; revert hb; decide) | ((try simp only [BL] at hb) <;> (try simp only [DL] at hb) <;> (first | (exfalso; omega) | (conv => whnf)))))
        | (refine And.intro ?_ ?_; (focus (first | exact id | exact rfl | exact trivial | (intro hg; first | exact hg | exact rfl | (simp; done) | (simp at hg ⊢; assumption)) | omega | decide | exact is2_c _ _ _ | exact is1_c _ _ | exact isS_c _ _ | exact isB_c _ _ | exact Nat.le_refl _ | assumption | exact mulLe (by decide) (by omega) | exact mulLe2 (by decide) (by omega) (by omega) | (intros; simp only [BL] at *; omega) | (intros; (try simp only [BL] at *); (try simp only [DL] at *); omega) | (intros; simp only [BL] at *; rw [wr_id (by omega) (by omega)]; omega) | (intro h1 h2; exact Bool.and_eq_true_iff.2 ⟨h1, h2⟩) | first | exact hX i (by omega) | exact ⟨by omega, by omega⟩ | (intros; simp_all; done))); conv => whnf)
        | (refine Or.inr (And.intro rfl ?_); first | (refine congrArg intV ?_) | (refine congrArg boolV ?_) | (refine tupII ?_ ?_) | (refine tupIII ?_ ?_ ?_) | (refine tupU ?_ ?_ ?_ ?_ ?_) | exact rfl))
      all_goals first | (exfalso; rcases hb with hb | hb <;> first | exact hb trivial | omega) | skip
      iterate 10
        · refine ⟨(i + 1, t.put (t.n + 1) t.n (X.nm i) (X.nu i) (X.ti i) (X.va i) 1), [?_, ?_, ?_, ?_, ?_], ⟨by show i + 1 ≤ N; omega, hinv.put h0 (by omega) (fun k h1 h2 => by omega) (by omega)⟩, by show N - (i + 1) < N - i; omega, ?_⟩
          rotate_left 5
          refine Sub.of ?_ ?_ ?_
          repeat' (first | (refine And.intro ?_ ?_) | exact trivial | exact fun _ _ _ => hsc _ _ | (exact congrArg intV (by first | with_reducible rfl | with_reducible assumption)) | exact (rfl : AV.idsLt _ _ = true) | exact (rfl : _ = AV.ren _ (.own _)) | exact (rfl : _ = AV.ren _ (.fn _ _)) | exact (rfl : _ = AV.ren _ (.gh _)) | (exact congrArg intV (by assumption)) | (refine congrArg intV ((wr_id (by omega) (by omega)).trans (by omega))) | exact rfl | (simp only [Int.toNat_natCast, Int.toNat_zero, Nat.sub_zero, Nat.zero_add]; first | exact rfl | done) | exact all0 | exact fun h => Bool.noConfusion h | exact fun _ _ _ _ => rfl | omega)
          · intro a ha b hb9
            have hb9 : b < 4 := hb9
            by_cases e : a < t.n
            · exact (if_pos e).trans (cM_ne (by omega) b).symm
            · have e : a = t.n := by omega
              refine (if_neg (by omega)).trans ?_
              rw [e, Nat.sub_self]
              refine Eq.trans ?_ (cM_eq t (t.n + 1) t.n (X.nm i) (X.nu i) (X.ti i) (X.va i) 1 b).symm
              match b, hb9 with
              | 0, _ => rfl
              | 1, _ => rfl
              | 2, _ => rfl
              | 3, _ => rfl
          · intro a ha b hb9
            match b, hb9 with
            | 0, _ =>
              by_cases e : a < t.n
              · refine (if_pos e).trans (congrArg iL ?_)
                show t.nu a - t.mn a = (if a = t.n then X.nu i else t.nu a) - (if a = t.n then 1 else t.mn a)
                rw [if_neg (by omega), if_neg (by omega)]
              · have e : a = t.n := by omega
                refine (if_neg (by omega)).trans ?_
                rw [e, Nat.sub_self]
                refine congrArg iL ?_
                show IntKind.i64.wrap (X.nu i - 1) = (if t.n = t.n then X.nu i else t.nu t.n) - (if t.n = t.n then 1 else t.mn t.n)
                rw [if_pos rfl, if_pos rfl, w1]
    · refine CallG.wr [1, 2] rfl (FnM.mono (tlTake age t (X.nm i) (X.nu i) (X.ti i) (X.va i) (hX i (by omega)) hi24 (fun k hk => by have := hik k hk; omega)) ?_)
      rintro obs r ⟨rfl, ⟨hd, rfl⟩ | ⟨hd, rfl⟩⟩
      rotate_left
      · exact absurd (congrArg (fun z => z.1.n) hK) hd
      rw [hK]
      conv => whnf
      repeat' (first
        | (refine NilG.mk fun bn hbn hbx => ?_; conv => whnf)
        | (refine Both.mk ?_ ?_ <;> conv => whnf)
        | exact trivial
        | (refine Br.mk (fun hb => ?_) (fun hb => ?_) <;> (first | (exfalso; revert hb; decide) | ((try simp only [BL] at hb) <;> (try simp only [DL] at hb) <;> conv => whnf)))
        | (refine And.intro ?_ ?_; (focus (first | exact id | exact rfl | exact trivial | (intro hg; first | exact hg | exact rfl | (simp; done) | (simp at hg ⊢; assumption)) | omega | decide | exact is2_c _ _ _ | exact is1_c _ _ | exact isS_c _ _ | exact isB_c _ _ | exact Nat.le_refl _ | assumption | exact mulLe (by decide) (by omega) | exact mulLe2 (by decide) (by omega) (by omega) | (intros; simp only [BL] at *; omega) | (intros; (try simp only [BL] at *); (try simp only [DL] at *); omega) | (intros; simp only [BL] at *; rw [wr_id (by omega) (by omega)]; omega) | (intro h1 h2; exact Bool.and_eq_true_iff.2 ⟨h1, h2⟩) | (intros; simp_all; done))); conv => whnf)
        | (refine Or.inr (And.intro rfl ?_); first | (refine congrArg intV ?_) | (refine congrArg boolV ?_) | (refine tupII ?_ ?_) | (refine tupIII ?_ ?_ ?_) | (refine tupU ?_ ?_ ?_ ?_ ?_) | exact rfl))
      refine CallG.mk (Fn.mono (tlIdx1 t (X.nm i) (X.nu i) (X.ti i) (X.va i) (by omega)) ?_)
      rintro obs r ⟨rfl, rfl⟩
      conv => whnf
      repeat' (first
        | (refine NilG.mk fun bn hbn hbx => ?_; conv => whnf)
        | (refine Both.mk ?_ ?_ <;> conv => whnf)
        | exact trivial
        | (refine Br.mk (fun hb => ?_) (fun hb => ?_) <;> (first | (exfalso; revert hb; decide) | ((try simp only [BL] at hb) <;> (try simp only [DL] at hb) <;> (first | (exfalso; omega) | (conv => whnf)))))
        | (refine And.intro ?_ ?_; (focus (first | exact id | exact rfl | exact trivial | (intro hg; first | exact hg | exact rfl | (simp; done) | (simp at hg ⊢; assumption)) | omega | decide | exact is2_c _ _ _ | exact is1_c _ _ | exact isS_c _ _ | exact isB_c _ _ | exact Nat.le_refl _ | assumption | exact mulLe (by decide) (by omega) | exact mulLe2 (by decide) (by omega) (by omega) | (intros; simp only [BL] at *; omega) | (intros; (try simp only [BL] at *); (try simp only [DL] at *); omega) | (intros; simp only [BL] at *; rw [wr_id (by omega) (by omega)]; omega) | (intro h1 h2; exact Bool.and_eq_true_iff.2 ⟨h1, h2⟩) | first | exact hX i (by omega) | exact ⟨by omega, by omega⟩ | (intros; simp_all; done))); conv => whnf)
        | (refine Or.inr (And.intro rfl ?_); first | (refine congrArg intV ?_) | (refine congrArg boolV ?_) | (refine tupII ?_ ?_) | (refine tupIII ?_ ?_ ?_) | (refine tupU ?_ ?_ ?_ ?_ ?_) | exact rfl))
      all_goals first | (exfalso; rcases hb with hb | hb <;> first | exact hb trivial | omega) | skip
      refine ⟨(i + 1, t), [?_, ?_, ?_, ?_, ?_], ⟨by show i + 1 ≤ N; omega, hinv.same⟩, by show N - (i + 1) < N - i; omega, ?_⟩
      rotate_left 5
      refine Sub.of ?_ ?_ ?_
      repeat' (first | (refine And.intro ?_ ?_) | exact trivial | exact fun _ _ _ => hsc _ _ | (exact congrArg intV (by first | with_reducible rfl | with_reducible assumption)) | exact (rfl : AV.idsLt _ _ = true) | exact (rfl : _ = AV.ren _ (.own _)) | exact (rfl : _ = AV.ren _ (.fn _ _)) | exact (rfl : _ = AV.ren _ (.gh _)) | (exact congrArg intV (by assumption)) | (refine congrArg intV ((wr_id (by omega) (by omega)).trans (by omega))) | exact rfl | (simp only [Int.toNat_natCast, Int.toNat_zero, Nat.sub_zero, Nat.zero_add]; first | exact rfl | done) | exact all0 | exact fun h => Bool.noConfusion h | exact fun _ _ _ _ => rfl | omega)
    · refine CallG.wr [1, 2] rfl (FnM.mono (tlTake age t (X.nm i) (X.nu i) (X.ti i) (X.va i) (hX i (by omega)) hi24 (fun k hk => by have := hik k hk; omega)) ?_)
      rintro obs r ⟨rfl, ⟨hd, rfl⟩ | ⟨hd, rfl⟩⟩
      rotate_left
      · exact absurd (congrArg (fun z => z.1.n) hK) hd
      rw [hK]
      conv => whnf
      repeat' (first
        | (refine NilG.mk fun bn hbn hbx => ?_; conv => whnf)
        | (refine Both.mk ?_ ?_ <;> conv => whnf)
        | exact trivial
        | (refine Br.mk (fun hb => ?_) (fun hb => ?_) <;> (first | (exfalso; revert hb; decide) | ((try simp only [BL] at hb) <;> (try simp only [DL] at hb) <;> conv => whnf)))
        | (refine And.intro ?_ ?_; (focus (first | exact id | exact rfl | exact trivial | (intro hg; first | exact hg | exact rfl | (simp; done) | (simp at hg ⊢; assumption)) | omega | decide | exact is2_c _ _ _ | exact is1_c _ _ | exact isS_c _ _ | exact isB_c _ _ | exact Nat.le_refl _ | assumption | exact mulLe (by decide) (by omega) | exact mulLe2 (by decide) (by omega) (by omega) | (intros; simp only [BL] at *; omega) | (intros; (try simp only [BL] at *); (try simp only [DL] at *); omega) | (intros; simp only [BL] at *; rw [wr_id (by omega) (by omega)]; omega) | (intro h1 h2; exact Bool.and_eq_true_iff.2 ⟨h1, h2⟩) | (intros; simp_all; done))); conv => whnf)
        | (refine Or.inr (And.intro rfl ?_); first | (refine congrArg intV ?_) | (refine congrArg boolV ?_) | (refine tupII ?_ ?_) | (refine tupIII ?_ ?_ ?_) | (refine tupU ?_ ?_ ?_ ?_ ?_) | exact rfl))
      refine CallG.mk (Fn.mono (tlIdx1 t (X.nm i) (X.nu i) (X.ti i) (X.va i) (by omega)) ?_)
      rintro obs r ⟨rfl, rfl⟩
      conv => whnf
      repeat' (first
        | (refine NilG.mk fun bn hbn hbx => ?_; conv => whnf)
        | (refine Both.mk ?_ ?_ <;> conv => whnf)
        | exact trivial
        | (refine Br.mk (fun hb => ?_) (fun hb => ?_) <;> (first | (exfalso; revert hb; decide) | ((try simp only [BL] at hb) <;> (try simp only [DL] at hb) <;> (first | (exfalso; omega) | (conv => whnf)))))
        | (refine And.intro ?_ ?_; (focus (first | exact id | exact rfl | exact trivial | (intro hg; first | exact hg | exact rfl | (simp; done) | (simp at hg ⊢; assumption)) | omega | decide | exact is2_c _ _ _ | exact is1_c _ _ | exact isS_c _ _ | exact isB_c _ _ | exact Nat.le_refl _ | assumption | exact mulLe (by decide) (by omega) | exact mulLe2 (by decide) (by omega) (by omega) | (intros; simp only [BL] at *; omega) | (intros; (try simp only [BL] at *); (try simp only [DL] at *); omega) | (intros; simp only [BL] at *; rw [wr_id (by omega) (by omega)]; omega) | (intro h1 h2; exact Bool.and_eq_true_iff.2 ⟨h1, h2⟩) | first | exact hX i (by omega) | exact ⟨by omega, by omega⟩ | (intros; simp_all; done))); conv => whnf)
        | (refine Or.inr (And.intro rfl ?_); first | (refine congrArg intV ?_) | (refine congrArg boolV ?_) | (refine tupII ?_ ?_) | (refine tupIII ?_ ?_ ?_) | (refine tupU ?_ ?_ ?_ ?_ ?_) | exact rfl))
      all_goals first | (exfalso; rcases hb with hb | hb <;> first | exact hb trivial | omega) | skip
      refine ⟨(i + 1, t), [?_, ?_, ?_, ?_, ?_], ⟨by show i + 1 ≤ N; omega, hinv.same⟩, by show N - (i + 1) < N - i; omega, ?_⟩
      rotate_left 5
      refine Sub.of ?_ ?_ ?_
      repeat' (first | (refine And.intro ?_ ?_) | exact trivial | exact fun _ _ _ => hsc _ _ | (exact congrArg intV (by first | with_reducible rfl | with_reducible assumption)) | exact (rfl : AV.idsLt _ _ = true) | exact (rfl : _ = AV.ren _ (.own _)) | exact (rfl : _ = AV.ren _ (.fn _ _)) | exact (rfl : _ = AV.ren _ (.gh _)) | (exact congrArg intV (by assumption)) | (refine congrArg intV ((wr_id (by omega) (by omega)).trans (by omega))) | exact rfl | (simp only [Int.toNat_natCast, Int.toNat_zero, Nat.sub_zero, Nat.zero_add]; first | exact rfl | done) | exact all0 | exact fun h => Bool.noConfusion h | exact fun _ _ _ _ => rfl | omega)
    · refine CallG.wr [1, 2] rfl (FnM.mono (tlTake age t (X.nm i) (X.nu i) (X.ti i) (X.va i) (hX i (by omega)) hi24 (fun k hk => by have := hik k hk; omega)) ?_)
      rintro obs r ⟨rfl, ⟨hd, rfl⟩ | ⟨hd, rfl⟩⟩
      rotate_left
      · exact absurd (congrArg (fun z => z.1.n) hK) hd
      rw [hK]
      have hj := hik (fidx (sameN t.nm (X.nm i)) t.n).toNat (by omega)
      conv => whnf
      repeat' (first
        | (refine NilG.mk fun bn hbn hbx => ?_; conv => whnf)
        | (refine Both.mk ?_ ?_ <;> conv => whnf)
        | exact trivial
        | (refine Br.mk (fun hb => ?_) (fun hb => ?_) <;> (first | (exfalso; revert hb; decide) | ((try simp only [BL] at hb) <;> (try simp only [DL] at hb) <;> conv => whnf)))
        | (refine And.intro ?_ ?_; (focus (first | exact id | exact rfl | exact trivial | (intro hg; first | exact hg | exact rfl | (simp; done) | (simp at hg ⊢; assumption)) | omega | decide | exact is2_c _ _ _ | exact is1_c _ _ | exact isS_c _ _ | exact isB_c _ _ | exact Nat.le_refl _ | assumption | exact mulLe (by decide) (by omega) | exact mulLe2 (by decide) (by omega) (by omega) | (intros; simp only [BL] at *; omega) | (intros; (try simp only [BL] at *); (try simp only [DL] at *); omega) | (intros; simp only [BL] at *; rw [wr_id (by omega) (by omega)]; omega) | (intro h1 h2; exact Bool.and_eq_true_iff.2 ⟨h1, h2⟩) | (intros; simp_all; done))); conv => whnf)
        | (refine Or.inr (And.intro rfl ?_); first | (refine congrArg intV ?_) | (refine congrArg boolV ?_) | (refine tupII ?_ ?_) | (refine tupIII ?_ ?_ ?_) | (refine tupU ?_ ?_ ?_ ?_ ?_) | exact rfl))
      refine CallG.mk (Fn.mono (tlIdx1 t (X.nm i) (X.nu i) (X.ti i) (X.va i) (by omega)) ?_)
      rintro obs r ⟨rfl, rfl⟩
      conv => whnf
      repeat' (first
        | (refine NilG.mk fun bn hbn hbx => ?_; conv => whnf)
        | (refine Both.mk ?_ ?_ <;> conv => whnf)
        | exact trivial
        | (refine Br.mk (fun hb => ?_) (fun hb => ?_) <;> (first | (exfalso; revert hb; decide) | ((try simp only [BL] at hb) <;> (try simp only [DL] at hb) <;> (first | (exfalso; omega) | (conv => whnf)))))
        | (refine And.intro ?_ ?_; (focus (first | exact id | exact rfl | exact trivial | (intro hg; first | exact hg | exact rfl | (simp; done) | (simp at hg ⊢; assumption)) | omega | decide | exact is2_c _ _ _ | exact is1_c _ _ | exact isS_c _ _ | exact isB_c _ _ | exact Nat.le_refl _ | assumption | exact mulLe (by decide) (by omega) | exact mulLe2 (by decide) (by omega) (by omega) | (intros; simp only [BL] at *; omega) | (intros; (try simp only [BL] at *); (try simp only [DL] at *); omega) | (intros; simp only [BL] at *; rw [wr_id (by omega) (by omega)]; omega) | (intro h1 h2; exact Bool.and_eq_true_iff.2 ⟨h1, h2⟩) | first | exact hX i (by omega) | exact ⟨by omega, by omega⟩ | (intros; simp_all; done))); conv => whnf)
        | (refine Or.inr (And.intro rfl ?_); first | (refine congrArg intV ?_) | (refine congrArg boolV ?_) | (refine tupII ?_ ?_) | (refine tupIII ?_ ?_ ?_) | (refine tupU ?_ ?_ ?_ ?_ ?_) | exact rfl))
      all_goals first | (exfalso; rcases hb with hb | hb <;> first | exact hb trivial | omega) | skip
      · refine ⟨(i + 1, t.put t.n (fidx (sameN t.nm (X.nm i)) t.n).toNat (X.nm i) (X.nu i) (X.ti i) (X.va i) (t.mn (fidx (sameN t.nm (X.nm i)) t.n).toNat + 1)), [?_, ?_, ?_, ?_, ?_], ⟨by show i + 1 ≤ N; omega, hinv.put h0 hi24 (fun k h1 h2 => h1) (by omega)⟩, by show N - (i + 1) < N - i; omega, ?_⟩
        rotate_left 5
        refine Sub.of ?_ ?_ ?_
        repeat' (first | (refine And.intro ?_ ?_) | exact trivial | exact fun _ _ _ => hsc _ _ | (exact congrArg intV (by first | with_reducible rfl | with_reducible assumption)) | exact (rfl : AV.idsLt _ _ = true) | exact (rfl : _ = AV.ren _ (.own _)) | exact (rfl : _ = AV.ren _ (.fn _ _)) | exact (rfl : _ = AV.ren _ (.gh _)) | (exact congrArg intV (by assumption)) | (refine congrArg intV ((wr_id (by omega) (by omega)).trans (by omega))) | exact rfl | (simp only [Int.toNat_natCast, Int.toNat_zero, Nat.sub_zero, Nat.zero_add]; first | exact rfl | done) | exact all0 | exact fun h => Bool.noConfusion h | exact fun _ _ _ _ => rfl | omega)
        · intro a ha b hb9
          have hb9 : b < 4 := hb9
          by_cases e : a = (fidx (sameN t.nm (X.nm i)) t.n).toNat
          · refine (if_pos e).trans ((if_pos ⟨Nat.zero_le _, hb9⟩).trans ?_)
            rw [e]
            refine Eq.trans ?_ (cM_eq t t.n (fidx (sameN t.nm (X.nm i)) t.n).toNat (X.nm i) (X.nu i) (X.ti i) (X.va i) (t.mn (fidx (sameN t.nm (X.nm i)) t.n).toNat + 1) b).symm
            match b, hb9 with
            | 0, _ => rfl
            | 1, _ => rfl
            | 2, _ => rfl
            | 3, _ => rfl
          · exact (if_neg e).trans (cM_ne e b).symm
        · intro a ha b hb9
          have ho := msE_ok h0
          match b, hb9 with
          | 0, _ =>
            by_cases e : a = (fidx (sameN t.nm (X.nm i)) t.n).toNat
            · refine (if_pos e).trans ((if_pos ⟨Nat.zero_le _, Nat.zero_lt_one⟩).trans (congrArg iL ?_))
              show IntKind.i64.wrap (t.nu (fidx (sameN t.nm (X.nm i)) t.n).toNat - t.mn (fidx (sameN t.nm (X.nm i)) t.n).toNat + IntKind.i64.wrap (IntKind.i64.wrap (X.nu i - t.nu (fidx (sameN t.nm (X.nm i)) t.n).toNat) - 1)) = (if a = (fidx (sameN t.nm (X.nm i)) t.n).toNat then X.nu i else t.nu a) - (if a = (fidx (sameN t.nm (X.nm i)) t.n).toNat then t.mn (fidx (sameN t.nm (X.nm i)) t.n).toNat + 1 else t.mn a)
              rw [if_pos e, if_pos e, wr_id (x := X.nu i - t.nu (fidx (sameN t.nm (X.nm i)) t.n).toNat) (by omega) (by omega), wr_id (x := X.nu i - t.nu (fidx (sameN t.nm (X.nm i)) t.n).toNat - 1) (by omega) (by omega)]
              exact (wr_id (by omega) (by omega)).trans (by omega)
            · refine (if_neg e).trans (congrArg iL ?_)
              show t.nu a - t.mn a = (if a = (fidx (sameN t.nm (X.nm i)) t.n).toNat then X.nu i else t.nu a) - (if a = (fidx (sameN t.nm (X.nm i)) t.n).toNat then t.mn (fidx (sameN t.nm (X.nm i)) t.n).toNat + 1 else t.mn a)
              rw [if_neg e, if_neg e]
def tyMsg : Ty := .st (.cons .s (.cons (.i .i64) (.cons (.i .i64) (.cons (.i .i64) .nil))))

theorem telemetrySays_own : ownKnob Try.prog.godebug = none := by kernel_rfl
theorem telemetrySays_laid : laidOutB Try.prog = true := by kernel_rfl

set_option maxRecDepth 100000 in
theorem telemetrySays_lifted (os : Os) (started : os.Started) (H : Type) (enc : TypeId × Value → H) :
    ReturnsInHanded {} Try.checked os 8 .any (Rows.telemetrySaysSpec.pre6 enc Try.prog Try.f8 Rows.telemetrySaysRow.domain false) (Rows.telemetrySaysSpec.post enc Try.prog Try.f8 false true false false) := by
  refine returnsInHanded_of_change (C := Try.checked) telemetrySays_own started (by kernel_rfl) Try.func8
    (ChangeSpec.witness6 (enc := enc) (C := Try.checked) false ⟨#[], #[.int .i64 0, .slice none 0 0, .string ⟨#[]⟩, .int .i64 0], []⟩ 8 (by kernel_rfl) (by kernel_rfl) (by kernel_rfl) (by kernel_rfl)) ?_
  intro W base args ds gs before hval0 hW hcnd _
  have hval : ∀ (j : Nat) t v, Try.f8.params[j]? = some t → args[j]? = some v → Value.okWide Try.prog W .any base t v := hval0
  have hW' : DataW.Whole enc Try.prog Try.f8.params.toList Rows.telemetrySaysSpec.vars false W args.toList ds gs before := hW
  exact law_post (P := Try.prog) [.i .i64, .sl tyMsg, .s, .i .i64] (by kernel_rfl) telemetrySays_laid (by kernel_rfl) rfl (tb := 4) rfl (by kernel_rfl) (fun ds h => by
    match ds, h with
    | [d1, d2, d3, d4], _ => rfl) (fun x hx => tlLaw x.1 ⟨x.2.1.1, fun k => (x.2.1.2 k).1, fun k => (x.2.1.2 k).2.1, fun k => (x.2.1.2 k).2.2.1, fun k => (x.2.1.2 k).2.2.2.1, fun _ => 0⟩ x.2.2.1 x.2.2.2.1 hx.2.1.1 hx.2.2.1 (fun k hk => (hx.2.1.2 k hk).1)) W args ds gs before hval hW'

theorem telemetrySays_holds : Rows.TelemetrySaysSaid :=
  OpenClaim.holds_of_wide 8 Try.f8 rfl rfl rfl rfl rfl rfl rfl ⟨rfl, rfl, rfl, rfl, rfl⟩ rfl rfl rfl rfl rfl (by kernel_rfl) Try.func8 (by kernel_rfl)
    (of_decide_eq_true (by kernel_rfl)) (by unfold Func.isWrapper; rw [if_neg (by decide +kernel)]; exact ⟨rfl, rfl⟩)
    (fun os started H enc _ => telemetrySays_lifted os started H enc)
end Go.Proofs.Ytkkkldhilofgmaa
