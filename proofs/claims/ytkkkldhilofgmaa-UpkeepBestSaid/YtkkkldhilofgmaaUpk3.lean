/-
  The package upkeep: Verify, and the reference's error and cost of a plan.
-/
import Derived.Test.YtkkkldhilofgmaaUpk2
namespace Go.Proofs.Ytkkkldhilofgmaa
open Go.RowKit

def dyE (t : Tsk) (x : Nat → Int) (k : Nat) : Int := if x k < t.ff k ∨ t.la k < x k then 12 else 0
def coK (t : Tsk) (x : Nat → Int) (k : Nat) : Int := t.we k * (x k - t.ff k)
def plE (t : Tsk) (x : Nat → Int) (nx : Nat) : Int := if nx ≠ t.n then 3 else if fst (dyE t x) t.n ≠ 0 then fst (dyE t x) t.n else fst (wrE t x) t.n
def veE (t : Tsk) (x : Nat → Int) (nx : Nat) : Int := if tskE t ≠ 0 then tskE t else plE t x nx
theorem dyE_zero {t : Tsk} {x : Nat → Int} {k : Nat} (h : dyE t x k = 0) : t.ff k ≤ x k ∧ x k ≤ t.la k := by
  unfold dyE at h
  split at h
  · cases h
  · omega
theorem wrE_le (t : Tsk) (x : Nat → Int) (i : Nat) : wrE t x i = 0 ∨ wrE t x i = 9 ∨ wrE t x i = 11 := by
  have h9 : ∀ n, fst (fuE t x i) n = 0 ∨ fst (fuE t x i) n = 9 := fun n => by
    induction n with
    | zero => exact .inl rfl
    | succ n ih => simp only [fst]; split; · exact ih
                   · unfold fuE; split <;> simp
  have h11 : ∀ n, fst (ovE t x i) n = 0 ∨ fst (ovE t x i) n = 11 := fun n => by
    induction n with
    | zero => exact .inl rfl
    | succ n ih => simp only [fst]; split; · exact ih
                   · unfold ovE; split <;> simp
  unfold wrE
  split
  · have := h11 i; omega
  · have := h9 121; omega

def tOf (n : Nat) (f : Nat → Nat → L) (m : Nat) (g : Nat → Nat → L) (c : Int) : Tsk := ⟨n, dS f, fun k => (f k 1).toI, fun k => (f k 2).toI, fun k => (f k 3).toI, fun k => (f k 4).toI, m, d0 g, d1 g, c⟩
def isT (n : Nat) (f : Nat → Nat → L) (m : Nat) (g : Nat → Nat → L) (c : Int) : Prop := Sh n 5 f (cJ (tOf n f m g c)) ∧ is2 m g
theorem tV_le {n : Nat} {f : Nat → Nat → L} {m : Nat} {g : Nat → Nat → L} {c : Int} (h : isT n f m g c) : Le1 (.agg [.c (.sl 5 n f), .c (.sl 2 m g), .c (.v (.int .i64 c))]) (tV (tOf n f m g c)) :=
  Le1.agg (Le.cons (Le1.sl h.1) (Le.cons (Le1.sl h.2) (Le.cons (Le1.refl _) Le.nil)))
theorem isT_c (t : Tsk) : isT t.n (cJ t) t.m (c2 t.a t.b) t.c := ⟨fun _ _ _ _ => rfl, is2_c _ _ _⟩
def sT (P : Tsk → Prop) (g : Tsk → AV) : List AV → Sd × AV
  | [.agg [.c (.sl 5 n f), .c (.sl 2 m h), .c (.v (.int .i64 c))]] => (.p (isT n f m h c ∧ P (tOf n f m h c)), g (tOf n f m h c))
  | _ => (.p False, .top)
theorem sT_ok {f : FuncId} {P} {g} (h : ∀ t, P t → Fn1 Try.prog f [tV t] (g t)) : ∀ args, (sT P g args).1.ok → (sT P g args).2.exact.isSome = true → Fn1 Try.prog f args (sT P g args).2 := fun args hs _ => by
  unfold sT at hs ⊢
  split at hs
  · exact (h _ hs.2).le (Le.cons (tV_le hs.1) Le.nil)
  · exact hs.elim
def sTx (P : Tsk → Nat → (Nat → Int) → Prop) (g : Tsk → Nat → (Nat → Int) → AV) : List AV → Sd × AV
  | [.agg [.c (.sl 5 n f), .c (.sl 2 m h), .c (.v (.int .i64 c))], .c (.sl 1 nx x)] => (.p (isT n f m h c ∧ is1 nx x ∧ P (tOf n f m h c) nx (d0 x)), g (tOf n f m h c) nx (d0 x))
  | _ => (.p False, .top)
theorem sTx_ok {f : FuncId} {P} {g} (h : ∀ t nx x, P t nx x → Fn1 Try.prog f [tV t, .c (.sl 1 nx (c1 x))] (g t nx x)) : ∀ args, (sTx P g args).1.ok → (sTx P g args).2.exact.isSome = true → Fn1 Try.prog f args (sTx P g args).2 := fun args hs _ => by
  unfold sTx at hs ⊢
  split at hs
  · exact (h _ _ _ hs.2.2).le (Le.cons (tV_le hs.1) (Le.cons (Le1.sl hs.2.1) Le.nil))
  · exact hs.elim
def sTxi (P : Tsk → Nat → (Nat → Int) → Int → Prop) (g : Tsk → Nat → (Nat → Int) → Int → AV) : List AV → Sd × AV
  | [.agg [.c (.sl 5 n f), .c (.sl 2 m h), .c (.v (.int .i64 c))], .c (.sl 1 nx x), .c (.v (.int .i64 i))] => (.p (isT n f m h c ∧ is1 nx x ∧ P (tOf n f m h c) nx (d0 x) i), g (tOf n f m h c) nx (d0 x) i)
  | _ => (.p False, .top)
theorem sTxi_ok {f : FuncId} {P} {g} (h : ∀ t nx x i, P t nx x i → Fn1 Try.prog f [tV t, .c (.sl 1 nx (c1 x)), intV i] (g t nx x i)) : ∀ args, (sTxi P g args).1.ok → (sTxi P g args).2.exact.isSome = true → Fn1 Try.prog f args (sTxi P g args).2 := fun args hs _ => by
  unfold sTxi at hs ⊢
  split at hs
  · exact (h _ _ _ _ hs.2.2).le (Le.cons (tV_le hs.1) (Le.cons (Le1.sl hs.2.1) (Le.cons (Le1.refl _) Le.nil)))
  · exact hs.elim

abbrev wPre (t : Tsk) (nx : Nat) (x : Nat → Int) (i : Int) : Prop := tskE t = 0 ∧ nx = t.n ∧ 0 ≤ i ∧ i < t.n ∧ ∀ k : Nat, k ≤ i.toNat → 0 ≤ x k ∧ x k ≤ 60
def gamK3 : Gam := fun f => match f with
  | 59 => some (sT Tsk.ok fun t => intV (tskE t))
  | 100 => some (sTxi wPre fun t _ x i => intV (wrE t x i.toNat))
  | _ => none
theorem gamK3_ok : GOk Try.prog gamK3 := fun f g h => by
  unfold gamK3 at h
  split at h
  · injection h with h; subst h; exact sT_ok upCheck
  · injection h with h; subst h; exact sTxi_ok fun t nx x i hp => by
      obtain ⟨p1, p2, p3, p4, p5⟩ := hp
      have := upWrong t x nx i.toNat p1 p2 (by omega) p5
      rwa [show ((i.toNat : Nat) : Int) = i by omega] at this
  · cases h

def gamK4 : Gam := fun f => match f with
  | 52 => some (s3 inB)
  | _ => none
theorem gamK4_ok : GOk Try.prog gamK4 := fun f g h => by
  unfold gamK4 at h
  split at h
  · injection h with h; subst h; exact s3_ok in4
  · cases h
abbrev tX (t : Tsk) : AV := .xp 3 fun j => [.sl 5 t.n (cJ t), .sl 2 t.m (c2 t.a t.b), iL t.c].getD j .un
abbrev xX (n : Nat) (x : Nat → Int) : AV := .xp 1 fun j => [.sl 1 n (c1 x)].getD j .un
theorem upBusy (t : Tsk) (x : Nat → Int) (k : Nat) (K d : Int) (eK : K = k) (hn : t.n ≤ 1000) (hk : k < t.n) (hx : 0 ≤ x k ∧ x k ≤ 60) (hl : 1 ≤ t.lg k ∧ t.lg k ≤ 60) : Fn1 Try.prog 61 [intV K, intV d, xX t.n x, tX t] (boolV (bsy t x k d)) := by
  refine fn_of_wpx (O := lex) tab_ok gamK4_ok mixed Try.func61 (by kernel_rfl) rfl rfl rfl (by simp [Try.ntmps61]) (by kernel_rfl) ?_
  subst eK
  have e1 : IntKind.i64.wrap (IntKind.i64.wrap (x k + t.lg k) - 1) = x k + t.lg k - 1 := by
    rw [wr_id (x := x k + t.lg k) (by omega) (by omega)]
    exact wr_id (by omega) (by omega)
  conv => whnf
  repeat' (first
    | (refine NilG.mk fun bn hbn hbx => ?_; conv => whnf)
    | (refine Both.mk ?_ ?_ <;> conv => whnf)
    | exact trivial
    | (refine Br.mk (fun hb => ?_) (fun hb => ?_) <;> (first | (exfalso; revert hb; decide) | ((try simp only [BL] at hb) <;> (try simp only [DL] at hb) <;> conv => whnf)))
    | (refine And.intro ?_ ?_; (focus (first | exact id | exact rfl | exact trivial | (intro hg; first | exact hg | exact rfl | (simp; done) | (simp at hg ⊢; assumption)) | omega | decide | exact is2_c _ _ _ | exact is1_c _ _ | exact isS_c _ _ | exact isB_c _ _ | exact Nat.le_refl _ | assumption | exact mulLe (by decide) (by omega) | exact mulLe2 (by decide) (by omega) (by omega) | (intros; simp only [BL] at *; omega) | (intros; (try simp only [BL] at *); (try simp only [DL] at *); omega) | (intros; simp only [BL] at *; rw [wr_id (by omega) (by omega)]; omega) | (intro h1 h2; exact Bool.and_eq_true_iff.2 ⟨h1, h2⟩) | (intros; simp_all; done))); conv => whnf)
    | (refine Or.inr (And.intro rfl ?_); first | (refine congrArg intV ?_) | (refine congrArg boolV ?_) | (refine tupII ?_ ?_) | (refine tupIII ?_ ?_ ?_) | (refine tupU ?_ ?_ ?_ ?_ ?_) | exact rfl))
  · show inB d (x k) (IntKind.i64.wrap (IntKind.i64.wrap (x k + t.lg k) - 1)) = _
    rw [e1]
    rfl

/-- pair j: job k and one before it, both busy on day d -/
def hitD (t : Tsk) (x : Nat → Int) (k : Nat) (d : Int) (j : Nat) : Prop := (t.a j = k ∧ t.b j < k ∨ t.b j = k ∧ t.a j < k) ∧ bsy t x (t.a j).toNat d = true ∧ bsy t x (t.b j).toNat d = true
theorem hasP_iff (t : Tsk) (u v : Int) : hasP t u v = true ↔ ∃ j, j < t.m ∧ t.a j = u ∧ t.b j = v := by
  unfold hasP
  simp only [decide_eq_true_eq]
  constructor
  · intro h
    refine Classical.byContradiction fun hn => ?_
    have : ∀ k, k < t.m → prB t.a t.b u v k = false := fun k hk => by
      refine Bool.eq_false_iff.2 fun hp => hn ⟨k, hk, ?_⟩
      simp only [prB, Bool.and_eq_true, beq_iff_eq] at hp
      exact ⟨hp.1.symm, hp.2.symm⟩
    rw [fidx_none this] at h
    omega
  · rintro ⟨j, hj, h1, h2⟩
    refine Int.not_lt.1 fun hlt => ?_
    have := fidx_neg (b := prB t.a t.b u v) (n := t.m) (by omega) j hj
    simp [prB, h1, h2] at this
theorem ov_hit {t : Tsk} {x : Nat → Int} {k : Nat} (hT : tskE t = 0) (hk : k < t.n) (hx : ∀ k, k < t.n → 0 ≤ x k ∧ x k ≤ 60) : (∃ i, i < k ∧ ovE t x k i = 11) ↔ ∃ d j : Nat, d < 121 ∧ j < t.m ∧ hitD t x k d j := by
  obtain ⟨hn6, hm6, hc1, hc6, hj, hp⟩ := tskE_zero hT
  have hbj : ∀ k, k < t.n → 1 ≤ t.lg k ∧ t.lg k ≤ 60 := fun k hk => by have := hj k hk; unfold badJ at this; omega
  constructor
  · rintro ⟨i, hi, h⟩
    unfold ovE at h
    split at h
    · rename_i h2
      obtain ⟨h2, h3⟩ := h2
      have x1 := hx k hk
      have x2 := hx i (by omega)
      have l1 := hbj k hk
      have l2 := hbj i (by omega)
      unfold lo2 hi2 at h2
      have hd : (((max (x i) (x k)).toNat : Nat) : Int) = max (x i) (x k) := by omega
      have b1 : bsy t x k ((max (x i) (x k)).toNat : Nat) = true := by rw [hd]; unfold bsy inB; simp only [BL]; omega
      have b2 : bsy t x i ((max (x i) (x k)).toNat : Nat) = true := by rw [hd]; unfold bsy inB; simp only [BL]; omega
      rcases h3 with h3 | h3 <;> obtain ⟨j, j1, j2, j3⟩ := (hasP_iff t _ _).1 h3
      · exact ⟨(max (x i) (x k)).toNat, j, by omega, j1, .inl ⟨j2, by omega⟩, by rw [j2]; exact b1, by rw [j3]; exact b2⟩
      · exact ⟨(max (x i) (x k)).toNat, j, by omega, j1, .inr ⟨j3, by omega⟩, by rw [j2]; exact b2, by rw [j3]; exact b1⟩
    · cases h
  · rintro ⟨d, j, d1, j1, h1, h2, h3⟩
    have hpj := hp j j1
    unfold bsy inB at h2 h3
    simp only [BL] at h2 h3
    rcases h1 with ⟨q1, q2⟩ | ⟨q1, q2⟩
    · refine ⟨(t.b j).toNat, by omega, ?_⟩
      rw [show (t.a j).toNat = k by omega] at h2
      unfold ovE
      rw [if_pos ⟨by unfold lo2 hi2; omega, .inl ((hasP_iff t _ _).2 ⟨j, j1, q1, by omega⟩)⟩]
    · refine ⟨(t.a j).toNat, by omega, ?_⟩
      rw [show (t.b j).toNat = k by omega] at h3
      unfold ovE
      rw [if_pos ⟨by unfold lo2 hi2; omega, .inr ((hasP_iff t _ _).2 ⟨j, j1, by omega, q1⟩)⟩]
theorem ov_vals (t : Tsk) (x : Nat → Int) (i k : Nat) : ovE t x i k = 0 ∨ ovE t x i k = 11 := by unfold ovE; split <;> simp
theorem fu_vals (t : Tsk) (x : Nat → Int) (i d : Nat) : fuE t x i d = 0 ∨ fuE t x i d = 9 := by unfold fuE; split <;> simp

end Go.Proofs.Ytkkkldhilofgmaa
