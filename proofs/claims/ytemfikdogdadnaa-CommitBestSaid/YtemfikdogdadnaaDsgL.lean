/-
  dual.Single in one form; what the law computes; the example.
-/
import Derived.Test.YtemfikdogdadnaaDsgW
import Derived.Test.YtemfikdogdadnaaOffTwo
namespace Go.Proofs.Ytemfikdogdadnaa
open Go.RowKit Go.ChangeShapes Go.WideShapes

def badPr (x : Int) : Bool := decide (x < -2000000) || decide (x > 2000000)
/-- the error of Single -/
def dsE (u : CuR) (n : Nat) (x : Nat → Int) : Int := if cuE u ≠ 0 then cuE u else if fidx (fun k => badPr (x k)) n ≥ 0 then 4 else 0
theorem fst_fidx (b : Nat → Bool) (n : Nat) : fst (fun k => if b k = true then 4 else 0) n = if fidx b n ≥ 0 then 4 else 0 := by
  have hv : ∀ n, fst (fun k => if b k = true then 4 else 0) n = 0 ∨ fst (fun k => if b k = true then 4 else 0) n = 4 := fun n => by
    induction n with
    | zero => exact .inl rfl
    | succ n ih =>
      simp only [fst]
      split
      · exact ih
      · split
        · exact .inr rfl
        · exact .inl rfl
  by_cases h : fidx b n ≥ 0
  · rw [if_pos h]
    rcases hv n with h0 | h0
    · exfalso
      rw [fidx_none fun k hk => by
        have := fst_zero h0 k hk
        cases hb : b k with
        | true => simp [hb] at this
        | false => rfl] at h
      exact absurd h (by decide)
    · exact h0
  · rw [if_neg h]
    exact fst_of fun k hk => by simp [fidx_neg h k hk]
theorem dsE_zero {u : CuR} {n : Nat} {x : Nat → Int} (h : dsE u n x = 0) : cuE u = 0 ∧ ∀ k, k < n → -2000000 ≤ x k ∧ x k ≤ 2000000 := by
  unfold dsE at h
  split at h
  · rename_i h1; exact absurd h h1
  · rename_i h1
    split at h
    · cases h
    · rename_i h2
      refine ⟨by simpa using h1, fun k hk => ?_⟩
      have := fidx_neg h2 k hk
      simp only [badPr, BL] at this
      omega
theorem prBad (x : Int) : Fn1 Try.prog 87 [intV x] (boolV (badPr x)) := by
  refine fn_of_wpx (O := lex) tab_ok (Γ := fun _ => none) (fun _ _ h => by cases h) mixed Try.func87 (by kernel_rfl) rfl rfl rfl (by simp [Try.ntmps87]) (by kernel_rfl) ?_
  conv => whnf
  repeat' (first
    | (refine NilG.mk fun bn hbn hbx => ?_; conv => whnf)
    | (refine Both.mk ?_ ?_ <;> conv => whnf)
    | ((first | (refine MkG.box 1 rfl rfl rfl (by decide) ?_) | (refine MkG.box 2 rfl rfl rfl (by decide) ?_) | (refine MkG.box 3 rfl rfl rfl (by decide) ?_) | (refine MkG.row ?_)); conv => whnf)
    | exact trivial
    | (refine Br.mk (fun hb => ?_) (fun hb => ?_) <;> (first | (exfalso; revert hb; decide) | ((try simp only [BL] at hb) <;> (try simp only [DL] at hb) <;> conv => whnf)))
    | (refine And.intro ?_ ?_; (focus (first | exact id | exact rfl | exact trivial | (intro hg; first | exact hg | exact rfl | (simp; done) | (simp at hg ⊢; assumption)) | omega | decide | exact is2_c _ _ _ | exact is1_c _ _ | exact isS_c _ _ | exact isB_c _ _ | exact Nat.le_refl _ | assumption | exact mulLe (by decide) (by omega) | exact mulLe2 (by decide) (by omega) (by omega) | (intros; simp only [BL] at *; omega) | (intros; (try simp only [BL] at *); (try simp only [DL] at *); omega) | (intros; simp only [BL] at *; rw [wr_id (by omega) (by omega)]; omega) | (intro h1 h2; exact Bool.and_eq_true_iff.2 ⟨h1, h2⟩) | (intros; simp_all; done))); conv => whnf)
    | (refine Or.inr (And.intro rfl ?_); first | (refine congrArg intV ?_) | (refine congrArg boolV ?_) | (refine tupII ?_ ?_) | (refine tupIII ?_ ?_ ?_) | (refine tupU ?_ ?_ ?_ ?_ ?_) | exact rfl))
  · rfl
def sCu (P : CuR → Prop) (g : CuR → AV) : List AV → Sd × AV
  | [.agg [.c (.v (.string a)), .c (.v (.int .i64 b)), .c (.v (.int .i64 c)), .c (.v (.int .i64 d)), .c (.v (.int .i64 e)), .c (.v (.int .i64 f)), .c (.v (.int .i64 g')), .c (.v (.int .i64 h)), .c (.v (.string s)), .c (.sl 2 m F), .c (.v (.bool on)), .c (.v (.int .i64 si)), .c (.v (.int .i64 po))]] =>
    (.p (is2 m F ∧ P ⟨⟨a, b, c, d, e, f, g', h⟩, s, m, d0 F, d1 F, on, si, po⟩), g ⟨⟨a, b, c, d, e, f, g', h⟩, s, m, d0 F, d1 F, on, si, po⟩)
  | _ => (.p False, .top)
theorem sCu_ok {f : FuncId} {P} {g} (h : ∀ u, P u → Fn1 Try.prog f [cuV u] (g u)) : ∀ args, (sCu P g args).1.ok → (sCu P g args).2.exact.isSome = true → Fn1 Try.prog f args (sCu P g args).2 := fun args hs _ => by
  unfold sCu at hs ⊢
  split at hs
  · exact (h _ hs.2).le (Le.cons (Le1.agg (Le.cons (Le1.refl _) (Le.cons (Le1.refl _) (Le.cons (Le1.refl _) (Le.cons (Le1.refl _) (Le.cons (Le1.refl _) (Le.cons (Le1.refl _) (Le.cons (Le1.refl _) (Le.cons (Le1.refl _) (Le.cons (Le1.refl _) (Le.cons (Le1.sl hs.1) (Le.cons (Le1.refl _) (Le.cons (Le1.refl _) (Le.cons (Le1.refl _) Le.nil)))))))))))))) Le.nil)
  · exact hs.elim
def gamD3 : Gam := fun f => match f with
  | 81 => some (sCu cuZ fun u => intV (cuE u))
  | _ => none
theorem gamD3_ok : GOk Try.prog gamD3 := fun f g h => by
  unfold gamD3 at h
  split at h
  · injection h with h; subst h; exact sCu_ok duCheck
  · cases h
/-- what Single returns -/
def siK (u : CuR) (x : Nat → Int) (n : Nat) (obs : List OB) (v : AV) : Prop :=
  obs = [] ∧ ((dsE u n x ≠ 0 ∧ v = .tup [.c (.v (.slice none 0 0)), intV 0, intV (dsE u n x)]) ∨
    (dsE u n x = 0 ∧ v = .tup [.c (.sl 1 (if (dgF (pOk u n) (dV u x n) (2 ^ n)).2 then n else 0) (bestF u x n (2 ^ n))), intV (dgF (pOk u n) (dV u x n) (2 ^ n)).1, intV 0]))
/-- Single in one form -/
def siG (u : CuR) (x : Nat → Int) (n : Nat) (obs : List OB) (v : AV) : Prop :=
  obs = [] ∧ ∃ K f c, v = .tup [.c (.sl 1 K f), intV c, intV (dsE u n x)] ∧ (dsE u n x ≠ 0 → K = 0 ∧ c = 0) ∧
    (dsE u n x = 0 → K = (if (dgF (pOk u n) (dV u x n) (2 ^ n)).2 then n else 0) ∧ f = bestF u x n (2 ^ n) ∧ c = (dgF (pOk u n) (dV u x n) (2 ^ n)).1)
theorem dTup {bs' bs : List AV} (h : Le bs' bs) : Le1 (.tup bs') (.tup bs) := fun σ I w v hd => by
  simp only [Den] at hd ⊢
  obtain ⟨us, e, h1⟩ := hd
  exact ⟨us, e, h _ _ _ _ h1⟩
theorem dNil {sz : Nat} {f : Nat → Nat → L} : Le1 (.c (.v (.slice none 0 0))) (.c (.sl sz 0 f)) := fun σ I w v hd => by
  simp only [Den, L.rd] at hd ⊢
  obtain ⟨rfl, _⟩ := hd
  exact ⟨none, 0, rfl, Nat.le_refl _, Nat.zero_le _, fun h => absurd h (Nat.lt_irrefl 0)⟩
/-- the best of the first steps at a price -/
def mxP (u : CuR) (t : Int) : Nat → Int
  | 0 => t * u.r.le - S (ct u.p u.q u.r.le) u.m
  | j + 1 => if S u.p (j + 1) > u.r.le then max (mxP u t j) (t * S u.p (j + 1) - S (ct u.p u.q (S u.p (j + 1))) u.m) else mxP u t j
theorem mxP_all {u : CuR} (hu : cuE u = 0) (x : Nat → Int) (t : Nat) : mxP u (x t) u.m = dG u x t := by
  obtain ⟨_, hk, _, ho, hs, _⟩ := cuE_all hu
  unfold okR at hk
  have hp : ∀ j, j < u.m → 0 ≤ u.p j := fun j hj => by have := (ho.2.1 j hj).1; omega
  have hSm : ∀ j, j ≤ u.m → 0 ≤ S u.p j ∧ S u.p j ≤ S u.p u.m := fun j hj => ⟨(ho.S0 hj).1, S_mono hp hj⟩
  obtain ⟨a, ha, hP, e⟩ := sup_cut ho (x t)
  have ea := hSm a ha
  have eG : dG u x t = prof u.p u.q u.m (x t) (max (S u.p a) u.r.le) := by
    unfold dG dP
    rw [e]
    exact prof_eq hp _ (by omega) (by omega)
  rw [eG]
  have up : ∀ j, j ≤ u.m → mxP u (x t) j ≤ prof u.p u.q u.m (x t) (max (S u.p a) u.r.le) := fun j => by
    induction j with
    | zero =>
      intro _
      show x t * u.r.le - S (ct u.p u.q u.r.le) u.m ≤ _
      rw [prof_eq hp _ (by omega) (by omega)]
      exact prof_best ho ha hP (Int.le_refl _)
    | succ j ih =>
      intro hj
      have h1 := ih (by omega)
      have h2 := hSm (j + 1) hj
      simp only [mxP]
      split
      · rename_i h3
        rw [prof_eq hp _ h2.1 h2.2]
        have := prof_best (t := x t) ho ha hP (Int.le_of_lt h3)
        omega
      · exact h1
  have mono : ∀ d j, mxP u (x t) j ≤ mxP u (x t) (j + d) := fun d j => by
    induction d with
    | zero => exact Int.le_refl _
    | succ d ih =>
      refine Int.le_trans ih ?_
      show _ ≤ mxP u (x t) (j + d + 1)
      simp only [mxP]
      split <;> omega
  refine Int.le_antisymm (up u.m (Nat.le_refl _)) ?_
  by_cases hle : S u.p a ≤ u.r.le
  · have h1 := mono u.m 0
    rw [Nat.zero_add] at h1
    refine Int.le_trans ?_ h1
    rw [show max (S u.p a) u.r.le = u.r.le by omega]
    show _ ≤ x t * u.r.le - S (ct u.p u.q u.r.le) u.m
    rw [prof_eq hp _ (by omega) (by omega)]
    exact Int.le_refl _
  · have ha0 : a ≠ 0 := fun h => by
      rw [h] at hle
      have : S u.p 0 = 0 := rfl
      omega
    have h1 := mono (u.m - a) a
    rw [show a + (u.m - a) = u.m by omega] at h1
    refine Int.le_trans ?_ h1
    rw [show max (S u.p a) u.r.le = S u.p a by omega]
    have h2 : mxP u (x t) a = if S u.p (a - 1 + 1) > u.r.le then max (mxP u (x t) (a - 1)) (x t * S u.p (a - 1 + 1) - S (ct u.p u.q (S u.p (a - 1 + 1))) u.m) else mxP u (x t) (a - 1) := by
      have : mxP u (x t) (a - 1 + 1) = if S u.p (a - 1 + 1) > u.r.le then max (mxP u (x t) (a - 1)) (x t * S u.p (a - 1 + 1) - S (ct u.p u.q (S u.p (a - 1 + 1))) u.m) else mxP u (x t) (a - 1) := rfl
      rw [← this, show a - 1 + 1 = a by omega]
    rw [h2, show a - 1 + 1 = a by omega, if_pos (by omega), ← prof_eq hp _ ea.1 ea.2]
    omega
/-- some pattern is permitted -/
theorem dg_found {u : CuR} (hu : cuE u = 0) (x : Nat → Int) {n : Nat} (hn : n ≤ 8) : (dgF (pOk u n) (dV u x n) (2 ^ n)).2 = true := by
  obtain ⟨_, hk, _, _, _, hup, hdn, hp⟩ := cuE_all hu
  have hpos : 0 < 2 ^ n := Nat.pow_pos (by decide)
  by_cases ho : u.on = true
  · refine dg_some (i := 2 ^ n - 1) (decide_eq_true ?_) (by omega)
    refine stay_on hk hup hdn ho (hp ho) fun k hk => ?_
    have hb : ∀ n, n ≤ 8 → ∀ k, k < n → bt (2 ^ n - 1) k = 1 := by decide +kernel
    show pw _ _ k = _
    unfold pw
    rw [if_pos (hb n hn k hk)]
  · refine dg_some (i := 0) (decide_eq_true ?_) hpos
    refine stay_off (u := cuS u) (by simpa using ho) fun k hk => ?_
    have hb : ∀ k, k < 8 → ¬ bt 0 k = 1 := by decide +kernel
    show pw _ _ k = _
    unfold pw
    rw [if_neg (hb k (by omega))]
/-- the example -/
def dU : CuR := ⟨⟨⟨#[65]⟩, 0, 20, 20, 20, 1, 1, 9⟩, ⟨#[65]⟩, 2, twoP, twoQ, false, 5, 0⟩
theorem d_cu : cuE dU = 0 := by decide +kernel
theorem d_ds : dsE dU 1 (fun _ => 0) = 0 := by decide +kernel
theorem d_dg : dgF (pOk dU 1) (dV dU (fun _ => 0) 1) (2 ^ 1) = (0, true) ∧ dgI (pOk dU 1) (dV dU (fun _ => 0) 1) (2 ^ 1) = 0 := by decide +kernel
theorem d_row : pw (dP dU fun _ => 0) 0 0 = -1 := by decide +kernel
end Go.Proofs.Ytemfikdogdadnaa
