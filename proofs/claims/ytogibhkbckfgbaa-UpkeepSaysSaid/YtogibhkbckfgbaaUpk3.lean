/-
  The package upkeep: Verify, and the reference's error and cost of a plan.
-/
import Derived.Test.YtogibhkbckfgbaaUpk2
namespace Go.Proofs.Ytogibhkbckfgbaa
open Go.RowKit

def dyE (t : Tsk) (x : Nat → Int) (k : Nat) : Int := if x k < t.ff k ∨ t.la k < x k then 12 else 0
def coK (t : Tsk) (x : Nat → Int) (k : Nat) : Int := t.we k * (x k - t.ff k)
def plE (t : Tsk) (x : Nat → Int) (nx : Nat) : Int := if nx ≠ t.n then 3 else if fst (dyE t x) t.n ≠ 0 then fst (dyE t x) t.n else fst (wrE t x) t.n
def veE (t : Tsk) (x : Nat → Int) (nx : Nat) : Int := if tskE t ≠ 0 then tskE t else plE t x nx
theorem dyE_zero {t : Tsk} {x : Nat → Int} {k : Nat} (h : dyE t x k = 0) : t.ff k ≤ x k ∧ x k ≤ t.la k := by
  unfold dyE at h
  split at h
  · cases h
  · omega
theorem wrE_le (t : Tsk) (x : Nat → Int) (i : Nat) : wrE t x i = 0 ∨ wrE t x i = 9 ∨ wrE t x i = 11 := by
  have h9 : ∀ n, fst (fuE t x i) n = 0 ∨ fst (fuE t x i) n = 9 := fun n => by
    induction n with
    | zero => exact .inl rfl
    | succ n ih => simp only [fst]; split; · exact ih
                   · unfold fuE; split <;> simp
  have h11 : ∀ n, fst (ovE t x i) n = 0 ∨ fst (ovE t x i) n = 11 := fun n => by
    induction n with
    | zero => exact .inl rfl
    | succ n ih => simp only [fst]; split; · exact ih
                   · unfold ovE; split <;> simp
  unfold wrE
  split
  · have := h11 i; omega
  · have := h9 121; omega

def tOf (n : Nat) (f : Nat → Nat → L) (m : Nat) (g : Nat → Nat → L) (c : Int) : Tsk := ⟨n, dS f, fun k => (f k 1).toI, fun k => (f k 2).toI, fun k => (f k 3).toI, fun k => (f k 4).toI, m, d0 g, d1 g, c⟩
def isT (n : Nat) (f : Nat → Nat → L) (m : Nat) (g : Nat → Nat → L) (c : Int) : Prop := Sh n 5 f (cJ (tOf n f m g c)) ∧ is2 m g
theorem tV_le {n : Nat} {f : Nat → Nat → L} {m : Nat} {g : Nat → Nat → L} {c : Int} (h : isT n f m g c) : Le1 (.agg [.c (.sl 5 n f), .c (.sl 2 m g), .c (.v (.int .i64 c))]) (tV (tOf n f m g c)) :=
  Le1.agg (Le.cons (Le1.sl h.1) (Le.cons (Le1.sl h.2) (Le.cons (Le1.refl _) Le.nil)))
theorem isT_c (t : Tsk) : isT t.n (cJ t) t.m (c2 t.a t.b) t.c := ⟨fun _ _ _ _ => rfl, is2_c _ _ _⟩
def sT (P : Tsk → Prop) (g : Tsk → AV) : List AV → Sd × AV
  | [.agg [.c (.sl 5 n f), .c (.sl 2 m h), .c (.v (.int .i64 c))]] => (.p (isT n f m h c ∧ P (tOf n f m h c)), g (tOf n f m h c))
  | _ => (.p False, .top)
theorem sT_ok {f : FuncId} {P} {g} (h : ∀ t, P t → Fn1 Try.prog f [tV t] (g t)) : ∀ args, (sT P g args).1.ok → (sT P g args).2.exact.isSome = true → Fn1 Try.prog f args (sT P g args).2 := fun args hs _ => by
  unfold sT at hs ⊢
  split at hs
  · exact (h _ hs.2).le (Le.cons (tV_le hs.1) Le.nil)
  · exact hs.elim
def sTx (P : Tsk → Nat → (Nat → Int) → Prop) (g : Tsk → Nat → (Nat → Int) → AV) : List AV → Sd × AV
  | [.agg [.c (.sl 5 n f), .c (.sl 2 m h), .c (.v (.int .i64 c))], .c (.sl 1 nx x)] => (.p (isT n f m h c ∧ is1 nx x ∧ P (tOf n f m h c) nx (d0 x)), g (tOf n f m h c) nx (d0 x))
  | _ => (.p False, .top)
theorem sTx_ok {f : FuncId} {P} {g} (h : ∀ t nx x, P t nx x → Fn1 Try.prog f [tV t, .c (.sl 1 nx (c1 x))] (g t nx x)) : ∀ args, (sTx P g args).1.ok → (sTx P g args).2.exact.isSome = true → Fn1 Try.prog f args (sTx P g args).2 := fun args hs _ => by
  unfold sTx at hs ⊢
  split at hs
  · exact (h _ _ _ hs.2.2).le (Le.cons (tV_le hs.1) (Le.cons (Le1.sl hs.2.1) Le.nil))
  · exact hs.elim
def sTxi (P : Tsk → Nat → (Nat → Int) → Int → Prop) (g : Tsk → Nat → (Nat → Int) → Int → AV) : List AV → Sd × AV
  | [.agg [.c (.sl 5 n f), .c (.sl 2 m h), .c (.v (.int .i64 c))], .c (.sl 1 nx x), .c (.v (.int .i64 i))] => (.p (isT n f m h c ∧ is1 nx x ∧ P (tOf n f m h c) nx (d0 x) i), g (tOf n f m h c) nx (d0 x) i)
  | _ => (.p False, .top)
theorem sTxi_ok {f : FuncId} {P} {g} (h : ∀ t nx x i, P t nx x i → Fn1 Try.prog f [tV t, .c (.sl 1 nx (c1 x)), intV i] (g t nx x i)) : ∀ args, (sTxi P g args).1.ok → (sTxi P g args).2.exact.isSome = true → Fn1 Try.prog f args (sTxi P g args).2 := fun args hs _ => by
  unfold sTxi at hs ⊢
  split at hs
  · exact (h _ _ _ _ hs.2.2).le (Le.cons (tV_le hs.1) (Le.cons (Le1.sl hs.2.1) (Le.cons (Le1.refl _) Le.nil)))
  · exact hs.elim

abbrev wPre (t : Tsk) (nx : Nat) (x : Nat → Int) (i : Int) : Prop := tskE t = 0 ∧ nx = t.n ∧ 0 ≤ i ∧ i < t.n ∧ ∀ k : Nat, k ≤ i.toNat → 0 ≤ x k ∧ x k ≤ 60
def gamK3 : Gam := fun f => match f with
  | 59 => some (sT Tsk.ok fun t => intV (tskE t))
  | 86 => some (sTxi wPre fun t _ x i => intV (wrE t x i.toNat))
  | _ => none
theorem gamK3_ok : GOk Try.prog gamK3 := fun f g h => by
  unfold gamK3 at h
  split at h
  · injection h with h; subst h; exact sT_ok upCheck
  · injection h with h; subst h; exact sTxi_ok fun t nx x i hp => by
      obtain ⟨p1, p2, p3, p4, p5⟩ := hp
      have := upWrong t x nx i.toNat p1 p2 (by omega) p5
      rwa [show ((i.toNat : Nat) : Int) = i by omega] at this
  · cases h

set_option maxHeartbeats 1000000 in
theorem upVerify (t : Tsk) (x : Nat → Int) (nx : Nat) (ht : t.ok) (hnx : nx ≤ maxLen) : Fn1 Try.prog 57 [tV t, .c (.sl 1 nx (c1 x))] (.tup [intV (if veE t x nx = 0 then S (coK t x) t.n else 0), intV (veE t x nx)]) := by
  refine fn_of_wpx (O := lex) tab_ok gamK3_ok mixed Try.func57 (by kernel_rfl) rfl rfl rfl (by simp [Try.ntmps57]) (by kernel_rfl) ?_
  have hn' : t.n ≤ 9223372036854775807 := ht.1
  have hnx' : nx ≤ 9223372036854775807 := hnx
  conv => whnf
  repeat' (first
    | (refine NilG.mk fun bn hbn => ?_; conv => whnf)
    | (refine Both.mk ?_ ?_ <;> conv => whnf)
    | exact trivial
    | (refine Br.mk (fun hb => ?_) (fun hb => ?_) <;> (first | (exfalso; revert hb; decide) | ((try simp only [BL] at hb) <;> (try simp only [DL] at hb) <;> conv => whnf)))
    | (refine And.intro ?_ ?_; (focus (first | exact id | exact rfl | exact trivial | (intro hg; first | exact hg | exact rfl | (simp; done) | (simp at hg ⊢; assumption)) | omega | decide | exact is2_c _ _ _ | exact is1_c _ _ | exact isS_c _ _ | exact isB_c _ _ | exact Nat.le_refl _ | assumption | exact mulLe (by decide) (by omega) | exact mulLe2 (by decide) (by omega) (by omega) | (intros; simp only [BL] at *; omega) | (intros; (try simp only [BL] at *); (try simp only [DL] at *); omega) | (intros; simp only [BL] at *; rw [wr_id (by omega) (by omega)]; omega) | (intros; simp_all; done) | exact ⟨isT_c t, ht⟩)); conv => whnf)
    | (refine Or.inr (And.intro rfl ?_); first | (refine congrArg intV ?_) | (refine congrArg boolV ?_) | (refine tupII ?_ ?_) | (refine tupIII ?_ ?_ ?_) | (refine tupU ?_ ?_ ?_ ?_ ?_) | exact rfl))
  · have h0 : ¬ tskE t = 0 := hb
    have hE : veE t x nx = tskE t := if_pos h0
    rw [hE, if_neg h0]
  · have h0 : ¬ tskE t = 0 := hb
    exact (if_pos h0).symm
  · rename_i h0
    have h0 : tskE t = 0 := h0
    have hE : veE t x nx = 3 := by unfold veE plE; rw [if_neg (fun h => h h0), if_pos (by omega)]
    rw [hE]; rfl
  · rename_i h0
    have h0 : tskE t = 0 := h0
    have hE : veE t x nx = 3 := by unfold veE plE; rw [if_neg (fun h => h h0), if_pos (by omega)]
    exact hE.symm
  rename_i h0
  have h0 : tskE t = 0 := h0
  obtain rfl : nx = t.n := by omega
  obtain ⟨hn6, hm6, hc1, hc6, hj, hp⟩ := tskE_zero h0
  have hbj : ∀ k, k < t.n → 0 ≤ t.ff k ∧ t.la k ≤ 60 ∧ 0 ≤ t.we k ∧ t.we k ≤ 1000 ∧ 1 ≤ t.lg k ∧ t.lg k ≤ 60 := fun k hk => by have := hj k hk; unfold badJ at this; omega
  have hE : veE t x t.n = if fst (dyE t x) t.n ≠ 0 then fst (dyE t x) t.n else fst (wrE t x) t.n := by unfold veE plE; rw [if_neg (fun h => h h0), if_neg (fun h => h rfl)]
  clear hb
  have hco : ∀ i, i ≤ t.n → fst (dyE t x) i = 0 → 0 ≤ S (coK t x) i ∧ S (coK t x) i ≤ 600000 := fun i hi hd => by
    have := S_le (p := coK t x) (a := 0) (b := 60000) (k := i) fun k hk => by
      have h1 := dyE_zero (fst_zero hd k hk)
      have h2 := hbj k (by omega)
      have := mulB (a := t.we k) (b := x k - t.ff k) (A := 1000) (B := 60) (by omega) (by omega) (by omega) (by omega) (by omega)
      have := Int.mul_nonneg (a := t.we k) (b := x k - t.ff k) (by omega) (by omega)
      unfold coK
      omega
    omega
  refine sem_loop tab_ok gamK3_ok mixed (by kernel_rfl) (O := lex) (fun i : Nat => ⟨[(26, intV i), (25, intV t.n), (24, .c (.sl 5 t.n (cJ t))), (1, .c (.sl 1 t.n (c1 x))), (2, .lp 0 0), (7, intV (S (coK t x) i))], [tB t]⟩) (fun i => i ≤ t.n ∧ fst (dyE t x) i = 0) (fun i => t.n - i) ⟨0, [?_], ⟨Nat.zero_le _, rfl⟩, ?_⟩ fun i hi => ?_
  rotate_left 1
  · refine Sub.of ?_ ?_ ?_
    repeat' (first | (refine And.intro ?_ ?_) | exact trivial | (exact congrArg intV (by assumption)) | (refine congrArg intV ((wr_id (by omega) (by omega)).trans (by omega))) | exact rfl | (simp only [Int.toNat_natCast, Int.toNat_zero, Nat.sub_zero, Nat.zero_add]; first | exact rfl | done) | exact all0 | exact fun h => Bool.noConfusion h | exact fun _ _ _ _ => rfl | exact fun _ _ _ => hsc _ _ | omega)
  have hci := hco i hi.1 hi.2
  conv => whnf
  repeat' (first
    | (refine NilG.mk fun bn hbn => ?_; conv => whnf)
    | (refine Both.mk ?_ ?_ <;> conv => whnf)
    | exact trivial
    | (refine Br.mk (fun hb => ?_) (fun hb => ?_) <;> (first | (exfalso; revert hb; decide) | ((try simp only [BL] at hb) <;> (try simp only [DL] at hb) <;> conv => whnf)))
    | (refine And.intro ?_ ?_; (focus (first | exact id | exact rfl | exact trivial | (intro hg; first | exact hg | exact rfl | (simp; done) | (simp at hg ⊢; assumption)) | omega | decide | exact is2_c _ _ _ | exact is1_c _ _ | exact isS_c _ _ | exact isB_c _ _ | exact Nat.le_refl _ | assumption | exact mulLe (by decide) (by omega) | exact mulLe2 (by decide) (by omega) (by omega) | (intros; simp only [BL] at *; omega) | (intros; (try simp only [BL] at *); (try simp only [DL] at *); omega) | (intros; simp only [BL] at *; rw [wr_id (by omega) (by omega)]; omega) | (intros; simp_all; done))); conv => whnf)
    | (refine Or.inr (And.intro rfl ?_); first | (refine congrArg intV ?_) | (refine congrArg boolV ?_) | (refine tupII ?_ ?_) | (refine tupIII ?_ ?_ ?_) | (refine tupU ?_ ?_ ?_ ?_ ?_) | exact rfl))
  iterate 2
    · have h1 : dyE t x i = 12 := by unfold dyE; rw [if_pos (by omega)]
      have hE' : veE t x t.n = 12 := by rw [hE, fst_at hi.2 (by rw [h1]; decide) (by omega), h1]; rfl
      first
      | (rw [hE']; rfl)
      | exact hE'.symm
  · have hin : i < t.n := by omega
    have h1 : dyE t x i = 0 := by unfold dyE; rw [if_neg (by omega)]
    have hci' := hco (i + 1) (by omega) (fst_next hi.2 h1)
    have hw := hbj i hin
    have hm := mulB (a := t.we i) (b := x i - t.ff i) (A := 1000) (B := 60) (by omega) (by omega) (by omega) (by omega) (by omega)
    have e1 : IntKind.i64.wrap (S (coK t x) i + IntKind.i64.wrap (t.we i * IntKind.i64.wrap (x i - t.ff i))) = S (coK t x) (i + 1) := by
      rw [wr_id (x := x i - t.ff i) (by omega) (by omega), wr_id (x := t.we i * (x i - t.ff i)) (by omega) (by omega)]
      exact wr_id (by simp only [S, coK] at hci'; omega) (by simp only [S, coK] at hci'; omega)
    refine ⟨i + 1, [?_], ⟨by omega, fst_next hi.2 h1⟩, by omega, ?_⟩
    rotate_left 1
    refine Sub.of ?_ ?_ ?_
    repeat' (first | (refine And.intro ?_ ?_) | exact trivial | (exact congrArg intV (by assumption)) | (refine congrArg intV ((wr_id (by omega) (by omega)).trans (by omega))) | exact rfl | (simp only [Int.toNat_natCast, Int.toNat_zero, Nat.sub_zero, Nat.zero_add]; first | exact rfl | done) | exact all0 | exact fun h => Bool.noConfusion h | exact fun _ _ _ _ => rfl | exact fun _ _ _ => hsc _ _ | omega)
  obtain rfl : i = t.n := by omega
  clear hb
  have hd0 := hi.2
  have hE2 : veE t x t.n = fst (wrE t x) t.n := by rw [hE, if_neg (fun h => h hd0)]
  have hx60 : ∀ k, k < t.n → 0 ≤ x k ∧ x k ≤ 60 := fun k hk => by have := dyE_zero (fst_zero hd0 k hk); have := hbj k hk; omega
  refine sem_loop tab_ok gamK3_ok mixed (by kernel_rfl) (O := lex) (fun i : Nat => ⟨[(62, intV i), (61, intV t.n), (1, .c (.sl 1 t.n (c1 x))), (2, .lp 0 0), (7, intV (S (coK t x) t.n))], [tB t]⟩) (fun i => i ≤ t.n ∧ fst (wrE t x) i = 0) (fun i => t.n - i) ⟨0, [?_], ⟨Nat.zero_le _, rfl⟩, ?_⟩ fun i hi' => ?_
  rotate_left 1
  · refine Sub.of ?_ ?_ ?_
    repeat' (first | (refine And.intro ?_ ?_) | exact trivial | (exact congrArg intV (by assumption)) | (refine congrArg intV ((wr_id (by omega) (by omega)).trans (by omega))) | exact rfl | (simp only [Int.toNat_natCast, Int.toNat_zero, Nat.sub_zero, Nat.zero_add]; first | exact rfl | done) | exact all0 | exact fun h => Bool.noConfusion h | exact fun _ _ _ _ => rfl | exact fun _ _ _ => hsc _ _ | omega)
  conv => whnf
  repeat' (first
    | (refine NilG.mk fun bn hbn => ?_; conv => whnf)
    | (refine Both.mk ?_ ?_ <;> conv => whnf)
    | exact trivial
    | (refine Br.mk (fun hb => ?_) (fun hb => ?_) <;> (first | (exfalso; revert hb; decide) | ((try simp only [BL] at hb) <;> (try simp only [DL] at hb) <;> conv => whnf)))
    | (refine And.intro ?_ ?_; (focus (first | exact id | exact rfl | exact trivial | (intro hg; first | exact hg | exact rfl | (simp; done) | (simp at hg ⊢; assumption)) | omega | decide | exact is2_c _ _ _ | exact is1_c _ _ | exact isS_c _ _ | exact isB_c _ _ | exact Nat.le_refl _ | assumption | exact mulLe (by decide) (by omega) | exact mulLe2 (by decide) (by omega) (by omega) | (intros; simp only [BL] at *; omega) | (intros; (try simp only [BL] at *); (try simp only [DL] at *); omega) | (intros; simp only [BL] at *; rw [wr_id (by omega) (by omega)]; omega) | (intros; simp_all; done))); conv => whnf)
    | (refine Or.inr (And.intro rfl ?_); first | (refine congrArg intV ?_) | (refine congrArg boolV ?_) | (refine tupII ?_ ?_) | (refine tupIII ?_ ?_ ?_) | (refine tupU ?_ ?_ ?_ ?_ ?_) | exact rfl))
  refine And.intro ⟨isT_c t, is1_c _ _, h0, rfl, by omega, show (i : Int) < t.n by omega, fun k hk => hx60 k (by omega)⟩ ?_
  conv => whnf
  repeat' (first
    | (refine NilG.mk fun bn hbn => ?_; conv => whnf)
    | (refine Both.mk ?_ ?_ <;> conv => whnf)
    | exact trivial
    | (refine Br.mk (fun hb => ?_) (fun hb => ?_) <;> (first | (exfalso; revert hb; decide) | ((try simp only [BL] at hb) <;> (try simp only [DL] at hb) <;> conv => whnf)))
    | (refine And.intro ?_ ?_; (focus (first | exact id | exact rfl | exact trivial | (intro hg; first | exact hg | exact rfl | (simp; done) | (simp at hg ⊢; assumption)) | omega | decide | exact is2_c _ _ _ | exact is1_c _ _ | exact isS_c _ _ | exact isB_c _ _ | exact Nat.le_refl _ | assumption | exact mulLe (by decide) (by omega) | exact mulLe2 (by decide) (by omega) (by omega) | (intros; simp only [BL] at *; omega) | (intros; (try simp only [BL] at *); (try simp only [DL] at *); omega) | (intros; simp only [BL] at *; rw [wr_id (by omega) (by omega)]; omega) | (intros; simp_all; done))); conv => whnf)
    | (refine Or.inr (And.intro rfl ?_); first | (refine congrArg intV ?_) | (refine congrArg boolV ?_) | (refine tupII ?_ ?_) | (refine tupIII ?_ ?_ ?_) | (refine tupU ?_ ?_ ?_ ?_ ?_) | exact rfl))
  iterate 2
    · have h1 : ¬ wrE t x i = 0 := hb
      have hE' : veE t x t.n = wrE t x i := by rw [hE2, fst_at hi'.2 h1 (by omega)]
      first
      | (rw [hE', if_neg h1]; done)
      | exact hE'.symm
  · have h1 : wrE t x i = 0 := hb
    refine ⟨i + 1, [?_], ⟨by omega, fst_next hi'.2 h1⟩, by omega, ?_⟩
    rotate_left 1
    refine Sub.of ?_ ?_ ?_
    repeat' (first | (refine And.intro ?_ ?_) | exact trivial | (exact congrArg intV (by assumption)) | (refine congrArg intV ((wr_id (by omega) (by omega)).trans (by omega))) | exact rfl | (simp only [Int.toNat_natCast, Int.toNat_zero, Nat.sub_zero, Nat.zero_add]; first | exact rfl | done) | exact all0 | exact fun h => Bool.noConfusion h | exact fun _ _ _ _ => rfl | exact fun _ _ _ => hsc _ _ | omega)
  iterate 2
    · obtain rfl : i = t.n := by omega
      have hE' : veE t x t.n = 0 := hE2.trans hi'.2
      first
      | exact (if_pos hE').symm
      | exact hE'.symm

def gamK4 : Gam := fun f => match f with
  | 17 => some (s3 inB)
  | _ => none
theorem gamK4_ok : GOk Try.prog gamK4 := fun f g h => by
  unfold gamK4 at h
  split at h
  · injection h with h; subst h; exact s3_ok in4
  · cases h
abbrev tX (t : Tsk) : AV := .xp 3 fun j => [.sl 5 t.n (cJ t), .sl 2 t.m (c2 t.a t.b), iL t.c].getD j .un
abbrev xX (n : Nat) (x : Nat → Int) : AV := .xp 1 fun j => [.sl 1 n (c1 x)].getD j .un
theorem upBusy (t : Tsk) (x : Nat → Int) (k : Nat) (K d : Int) (eK : K = k) (hn : t.n ≤ 1000) (hk : k < t.n) (hx : 0 ≤ x k ∧ x k ≤ 60) (hl : 1 ≤ t.lg k ∧ t.lg k ≤ 60) : Fn1 Try.prog 90 [intV K, intV d, xX t.n x, tX t] (boolV (bsy t x k d)) := by
  refine fn_of_wpx (O := lex) tab_ok gamK4_ok mixed Try.func90 (by kernel_rfl) rfl rfl rfl (by simp [Try.ntmps90]) (by kernel_rfl) ?_
  subst eK
  have e1 : IntKind.i64.wrap (IntKind.i64.wrap (x k + t.lg k) - 1) = x k + t.lg k - 1 := by
    rw [wr_id (x := x k + t.lg k) (by omega) (by omega)]
    exact wr_id (by omega) (by omega)
  conv => whnf
  repeat' (first
    | (refine NilG.mk fun bn hbn => ?_; conv => whnf)
    | (refine Both.mk ?_ ?_ <;> conv => whnf)
    | exact trivial
    | (refine Br.mk (fun hb => ?_) (fun hb => ?_) <;> (first | (exfalso; revert hb; decide) | ((try simp only [BL] at hb) <;> (try simp only [DL] at hb) <;> conv => whnf)))
    | (refine And.intro ?_ ?_; (focus (first | exact id | exact rfl | exact trivial | (intro hg; first | exact hg | exact rfl | (simp; done) | (simp at hg ⊢; assumption)) | omega | decide | exact is2_c _ _ _ | exact is1_c _ _ | exact isS_c _ _ | exact isB_c _ _ | exact Nat.le_refl _ | assumption | exact mulLe (by decide) (by omega) | exact mulLe2 (by decide) (by omega) (by omega) | (intros; simp only [BL] at *; omega) | (intros; (try simp only [BL] at *); (try simp only [DL] at *); omega) | (intros; simp only [BL] at *; rw [wr_id (by omega) (by omega)]; omega) | (intros; simp_all; done))); conv => whnf)
    | (refine Or.inr (And.intro rfl ?_); first | (refine congrArg intV ?_) | (refine congrArg boolV ?_) | (refine tupII ?_ ?_) | (refine tupIII ?_ ?_ ?_) | (refine tupU ?_ ?_ ?_ ?_ ?_) | exact rfl))
  · show inB d (x k) (IntKind.i64.wrap (IntKind.i64.wrap (x k + t.lg k) - 1)) = _
    rw [e1]
    rfl

/-- pair j: job k and one before it, both busy on day d -/
def hitD (t : Tsk) (x : Nat → Int) (k : Nat) (d : Int) (j : Nat) : Prop := (t.a j = k ∧ t.b j < k ∨ t.b j = k ∧ t.a j < k) ∧ bsy t x (t.a j).toNat d = true ∧ bsy t x (t.b j).toNat d = true
theorem hasP_iff (t : Tsk) (u v : Int) : hasP t u v = true ↔ ∃ j, j < t.m ∧ t.a j = u ∧ t.b j = v := by
  unfold hasP
  simp only [decide_eq_true_eq]
  constructor
  · intro h
    refine Classical.byContradiction fun hn => ?_
    have : ∀ k, k < t.m → prB t.a t.b u v k = false := fun k hk => by
      refine Bool.eq_false_iff.2 fun hp => hn ⟨k, hk, ?_⟩
      simp only [prB, Bool.and_eq_true, beq_iff_eq] at hp
      exact ⟨hp.1.symm, hp.2.symm⟩
    rw [fidx_none this] at h
    omega
  · rintro ⟨j, hj, h1, h2⟩
    refine Int.not_lt.1 fun hlt => ?_
    have := fidx_neg (b := prB t.a t.b u v) (n := t.m) (by omega) j hj
    simp [prB, h1, h2] at this
theorem ov_hit {t : Tsk} {x : Nat → Int} {k : Nat} (hT : tskE t = 0) (hk : k < t.n) (hx : ∀ k, k < t.n → 0 ≤ x k ∧ x k ≤ 60) : (∃ i, i < k ∧ ovE t x k i = 11) ↔ ∃ d j : Nat, d < 121 ∧ j < t.m ∧ hitD t x k d j := by
  obtain ⟨hn6, hm6, hc1, hc6, hj, hp⟩ := tskE_zero hT
  have hbj : ∀ k, k < t.n → 1 ≤ t.lg k ∧ t.lg k ≤ 60 := fun k hk => by have := hj k hk; unfold badJ at this; omega
  constructor
  · rintro ⟨i, hi, h⟩
    unfold ovE at h
    split at h
    · rename_i h2
      obtain ⟨h2, h3⟩ := h2
      have x1 := hx k hk
      have x2 := hx i (by omega)
      have l1 := hbj k hk
      have l2 := hbj i (by omega)
      unfold lo2 hi2 at h2
      have hd : (((max (x i) (x k)).toNat : Nat) : Int) = max (x i) (x k) := by omega
      have b1 : bsy t x k ((max (x i) (x k)).toNat : Nat) = true := by rw [hd]; unfold bsy inB; simp only [BL]; omega
      have b2 : bsy t x i ((max (x i) (x k)).toNat : Nat) = true := by rw [hd]; unfold bsy inB; simp only [BL]; omega
      rcases h3 with h3 | h3 <;> obtain ⟨j, j1, j2, j3⟩ := (hasP_iff t _ _).1 h3
      · exact ⟨(max (x i) (x k)).toNat, j, by omega, j1, .inl ⟨j2, by omega⟩, by rw [j2]; exact b1, by rw [j3]; exact b2⟩
      · exact ⟨(max (x i) (x k)).toNat, j, by omega, j1, .inr ⟨j3, by omega⟩, by rw [j2]; exact b2, by rw [j3]; exact b1⟩
    · cases h
  · rintro ⟨d, j, d1, j1, h1, h2, h3⟩
    have hpj := hp j j1
    unfold bsy inB at h2 h3
    simp only [BL] at h2 h3
    rcases h1 with ⟨q1, q2⟩ | ⟨q1, q2⟩
    · refine ⟨(t.b j).toNat, by omega, ?_⟩
      rw [show (t.a j).toNat = k by omega] at h2
      unfold ovE
      rw [if_pos ⟨by unfold lo2 hi2; omega, .inl ((hasP_iff t _ _).2 ⟨j, j1, q1, by omega⟩)⟩]
    · refine ⟨(t.a j).toNat, by omega, ?_⟩
      rw [show (t.b j).toNat = k by omega] at h3
      unfold ovE
      rw [if_pos ⟨by unfold lo2 hi2; omega, .inr ((hasP_iff t _ _).2 ⟨j, j1, by omega, q1⟩)⟩]
theorem ov_vals (t : Tsk) (x : Nat → Int) (i k : Nat) : ovE t x i k = 0 ∨ ovE t x i k = 11 := by unfold ovE; split <;> simp
theorem fu_vals (t : Tsk) (x : Nat → Int) (i d : Nat) : fuE t x i d = 0 ∨ fuE t x i d = 9 := by unfold fuE; split <;> simp

end Go.Proofs.Ytogibhkbckfgbaa
