/-
  The package governor, and what the law GovernorSays asks.
-/
import Derived.Test.YtogibhkbckfgbaaVmTy
namespace Go.Proofs.Ytogibhkbckfgbaa
open Go.RowKit

abbrev wr (x : Int) : Int := IntKind.i64.wrap x

def outB (n low high : Int) : Bool := decide (n < low) || decide (n > high)
def inB (n low high : Int) : Bool := decide (n ≥ low) && decide (n ≤ high)

theorem gout (n low high : Int) : Fn1 Try.prog 64 [intV n, intV low, intV high] (boolV (outB n low high)) := by
  refine fn_of_wpx (O := lex) tab_ok (Γ := fun _ => none) (fun _ _ h => by cases h) mixed Try.func64 (by kernel_rfl) rfl rfl rfl (by simp [Try.ntmps64]) (by kernel_rfl) ?_
  conv => whnf
  refine ⟨id, ?_⟩
  conv => whnf
  refine ⟨id, ?_⟩
  conv => whnf
  refine ⟨fun h => by simpa using h, ?_⟩
  conv => whnf
  refine ⟨rfl, .inr ⟨rfl, rfl⟩⟩

theorem gin (n low high : Int) : Fn1 Try.prog 17 [intV n, intV low, intV high] (boolV (inB n low high)) := by
  refine fn_of_wpx (O := lex) tab_ok (Γ := fun _ => none) (fun _ _ h => by cases h) mixed Try.func17 (by kernel_rfl) rfl rfl rfl (by simp [Try.ntmps17]) (by kernel_rfl) ?_
  conv => whnf
  refine ⟨id, ?_⟩
  conv => whnf
  refine ⟨id, ?_⟩
  conv => whnf
  refine ⟨fun h => by simpa using h, ?_⟩
  conv => whnf
  refine ⟨rfl, .inr ⟨rfl, rfl⟩⟩

def s3 (f : Int → Int → Int → Bool) : List AV → Sd × AV
  | [.c (.v (.int .i64 a)), .c (.v (.int .i64 b)), .c (.v (.int .i64 c))] => (.t, boolV (f a b c))
  | _ => (.p False, .top)
theorem s3_ok {f : FuncId} {g : Int → Int → Int → Bool} (h : ∀ a b c, Fn1 Try.prog f [intV a, intV b, intV c] (boolV (g a b c))) : ∀ args, (s3 g args).1.ok → (s3 g args).2.exact.isSome = true → Fn1 Try.prog f args (s3 g args).2 := fun args hs _ => by
  unfold s3 at hs ⊢
  split at hs
  · exact h _ _ _
  · exact hs.elim
def gamG1 : Gam := fun f => match f with
  | 64 => some (s3 outB)
  | 17 => some (s3 inB)
  | _ => none
theorem gamG1_ok : GOk Try.prog gamG1 := fun f g h => by
  unfold gamG1 at h
  split at h
  · injection h with h; subst h; exact s3_ok gout
  · injection h with h; subst h; exact s3_ok gin
  · cases h

def badG (s l m d b r : Int) : Bool := outB l 0 m || decide (m > 100000) || outB s l m || outB d 1 10000 || outB b 0 10000 || outB r 0 100000
def okG (s l m d b r : Int) : Bool := inB m 0 100000 && inB l 0 m && inB s l m && inB d 1 10000 && inB b 0 10000 && inB r 0 100000
def govV (s l m d b r : Int) : AV := .agg [intV s, intV l, intV m, intV d, intV b, intV r]

theorem gCheck (s l m d b r : Int) : Fn1 Try.prog 16 [govV s l m d b r] (intV (if badG s l m d b r then 4 else 0)) := by
  refine fn_of_wpx (O := lex) tab_ok gamG1_ok mixed Try.func16 (by kernel_rfl) rfl rfl rfl (by simp [Try.ntmps16]) (by kernel_rfl) ?_
  conv => whnf
  repeat' (first
    | (refine Br.mk (fun hb => ?_) (fun hb => ?_) <;> (first | (exfalso; revert hb; decide) | (conv => whnf)))
    | (refine And.intro ?_ ?_; (focus (first | exact id | exact rfl | exact trivial | (intro hg; first | exact hg | exact rfl | (simpa using hg)) | omega | decide)); conv => whnf)
    | (refine Or.inr (And.intro rfl ?_); first | (refine congrArg intV ?_) | (refine congrArg boolV ?_) | (refine tupII ?_ ?_)))
  · exact (if_pos hb).symm
  · exact (if_neg (Bool.eq_false_iff.1 hb)).symm

theorem gErr (s l m d b r : Int) : Fn1 Try.prog 15 [govV s l m d b r] (intV (if okG s l m d b r then 0 else 4)) := by
  refine fn_of_wpx (O := lex) tab_ok gamG1_ok mixed Try.func15 (by kernel_rfl) rfl rfl rfl (by simp [Try.ntmps15]) (by kernel_rfl) ?_
  conv => whnf
  repeat' (first
    | (refine Br.mk (fun hb => ?_) (fun hb => ?_) <;> (first | (exfalso; revert hb; decide) | (conv => whnf)))
    | (refine And.intro ?_ ?_; (focus (first | exact id | exact rfl | exact trivial | (intro hg; first | exact hg | exact rfl | (simpa using hg)) | omega | decide)); conv => whnf)
    | (refine Or.inr (And.intro rfl ?_); first | (refine congrArg intV ?_) | (refine congrArg boolV ?_) | (refine tupII ?_ ?_)))
  · exact (if_pos hb).symm
  · exact (if_neg (Bool.eq_false_iff.1 hb)).symm

theorem gwrong (f : Int) : Fn1 Try.prog 62 [intV f] (boolV (outB f (-10000) 10000)) := by
  refine fn_of_wpx (O := lex) tab_ok gamG1_ok mixed Try.func62 (by kernel_rfl) rfl rfl rfl (by simp [Try.ntmps62]) (by kernel_rfl) ?_
  conv => whnf
  repeat' (first
    | (refine Br.mk (fun hb => ?_) (fun hb => ?_) <;> (first | (exfalso; revert hb; decide) | (conv => whnf)))
    | (refine And.intro ?_ ?_; (focus (first | exact id | exact rfl | exact trivial | (intro hg; first | exact hg | exact rfl | (simpa using hg)) | omega | decide)); conv => whnf)
    | (refine Or.inr (And.intro rfl ?_); first | (refine congrArg intV ?_) | (refine congrArg boolV ?_) | (refine tupII ?_ ?_)))
  · rfl

def devE (b f : Int) : Int := if f > b then f - b else if f < -b then f + b else 0
def tgt (s l m d b f : Int) : Int := min (max (s - Int.tdiv (devE b f) d) l) m
def preG (s l m d b r f : Int) : Prop := badG s l m d b r = false ∧ outB f (-10000) 10000 = false

theorem preG.le {s l m d b r f : Int} (h : preG s l m d b r f) : 0 ≤ l ∧ l ≤ m ∧ m ≤ 100000 ∧ l ≤ s ∧ s ≤ m ∧ 1 ≤ d ∧ d ≤ 10000 ∧ 0 ≤ b ∧ b ≤ 10000 ∧ 0 ≤ r ∧ r ≤ 100000 ∧ -10000 ≤ f ∧ f ≤ 10000 := by
  obtain ⟨h1, h2⟩ := h
  simp only [badG, outB, Bool.or_eq_false_iff, decide_eq_false_iff_not] at h1 h2
  omega

theorem tdiv_le {e d : Int} (hd : 1 ≤ d) (B : Int) (h1 : -B ≤ e) (h2 : e ≤ B) : -B ≤ Int.tdiv e d ∧ Int.tdiv e d ≤ B := by
  have key : ∀ x : Int, 0 ≤ x → 0 ≤ Int.tdiv x d ∧ Int.tdiv x d ≤ x := fun x hx => by
    rw [Int.tdiv_eq_ediv_of_nonneg hx]
    exact ⟨Int.ediv_nonneg hx (by omega), Int.ediv_le_self _ hx⟩
  rcases Int.le_total 0 e with h | h
  · have := key e h; omega
  · have := key (-e) (by omega)
    rw [Int.neg_tdiv] at this
    omega

theorem gtarget (s l m d b r f : Int) (h : preG s l m d b r f) : Fn1 Try.prog 63 [govV s l m d b r, intV f] (intV (tgt s l m d b f)) := by
  refine fn_of_wpx (O := lex) tab_ok gamG1_ok mixed Try.func63 (by kernel_rfl) rfl rfl rfl (by simp [Try.ntmps63]) (by kernel_rfl) ?_
  have hle := h.le
  conv => whnf
  repeat' (first
    | (refine Br.mk (fun hb => ?_) (fun hb => ?_) <;> (first | (exfalso; revert hb; decide) | (conv => whnf)))
    | (refine And.intro ?_ ?_; (focus (first | exact id | exact rfl | exact trivial | (intro hg; first | exact hg | exact rfl | (simpa using hg)) | omega | decide)); conv => whnf)
    | (refine Or.inr (And.intro rfl ?_); first | (refine congrArg intV ?_) | (refine congrArg boolV ?_) | (refine tupII ?_ ?_)))
  · have hb' := of_decide_eq_true hb
    have ht := tdiv_le (e := f - b) (d := d) (by omega) 20000 (by omega) (by omega)
    rw [wr_id (x := f - b) (by omega) (by omega), wr_id (x := (f - b).tdiv d) (by omega) (by omega), wr_id (by omega) (by omega)]
    simp only [tgt, devE]
    rw [if_pos hb']
  · rename_i hb1
    have hb2 := of_decide_eq_false hb1
    have hb' := of_decide_eq_true hb
    rw [wr_id (by omega) (by omega)] at hb'
    have ht := tdiv_le (e := f + b) (d := d) (by omega) 20000 (by omega) (by omega)
    rw [wr_id (x := f + b) (by omega) (by omega), wr_id (x := (f + b).tdiv d) (by omega) (by omega), wr_id (by omega) (by omega)]
    simp only [tgt, devE]
    rw [if_neg hb2, if_pos (by omega)]
  · rename_i hb1
    have hb2 := of_decide_eq_false hb1
    have hb' := of_decide_eq_false hb
    rw [wr_id (by omega) (by omega)] at hb'
    simp only [tgt, devE]
    rw [if_neg hb2, if_neg (by omega), Int.zero_tdiv, wr_id (x := 0) (by omega) (by omega), wr_id (by omega) (by omega)]

def sG (q : Int → Int → Int → Int → Int → Int → Prop) (g : Int → Int → Int → Int → Int → Int → AV) : List AV → Sd × AV
  | [.agg [.c (.v (.int .i64 s)), .c (.v (.int .i64 l)), .c (.v (.int .i64 m)), .c (.v (.int .i64 d)), .c (.v (.int .i64 b)), .c (.v (.int .i64 r))]] => (.p (q s l m d b r), g s l m d b r)
  | _ => (.p False, .top)
theorem sG_ok {f : FuncId} {q} {g} (h : ∀ s l m d b r, q s l m d b r → Fn1 Try.prog f [govV s l m d b r] (g s l m d b r)) : ∀ args, (sG q g args).1.ok → (sG q g args).2.exact.isSome = true → Fn1 Try.prog f args (sG q g args).2 := fun args hs _ => by
  unfold sG at hs ⊢
  split at hs
  · exact h _ _ _ _ _ _ hs
  · exact hs.elim
def sGi (q : Int → Int → Int → Int → Int → Int → Int → Prop) (g : Int → Int → Int → Int → Int → Int → Int → AV) : List AV → Sd × AV
  | [.agg [.c (.v (.int .i64 s)), .c (.v (.int .i64 l)), .c (.v (.int .i64 m)), .c (.v (.int .i64 d)), .c (.v (.int .i64 b)), .c (.v (.int .i64 r))], .c (.v (.int .i64 f))] => (.p (q s l m d b r f), g s l m d b r f)
  | _ => (.p False, .top)
theorem sGi_ok {f : FuncId} {q} {g} (h : ∀ s l m d b r x, q s l m d b r x → Fn1 Try.prog f [govV s l m d b r, intV x] (g s l m d b r x)) : ∀ args, (sGi q g args).1.ok → (sGi q g args).2.exact.isSome = true → Fn1 Try.prog f args (sGi q g args).2 := fun args hs _ => by
  unfold sGi at hs ⊢
  split at hs
  · exact h _ _ _ _ _ _ _ hs
  · exact hs.elim
def sGii (g : Int → Int → Int → Int → Int → Int → Int → Int → AV) : List AV → Sd × AV
  | [.agg [.c (.v (.int .i64 s)), .c (.v (.int .i64 l)), .c (.v (.int .i64 m)), .c (.v (.int .i64 d)), .c (.v (.int .i64 b)), .c (.v (.int .i64 r))], .c (.v (.int .i64 f)), .c (.v (.int .i64 x))] => (.t, g s l m d b r f x)
  | _ => (.p False, .top)
theorem sGii_ok {f : FuncId} {g} (h : ∀ s l m d b r x y, Fn1 Try.prog f [govV s l m d b r, intV x, intV y] (g s l m d b r x y)) : ∀ args, (sGii g args).1.ok → (sGii g args).2.exact.isSome = true → Fn1 Try.prog f args (sGii g args).2 := fun args hs _ => by
  unfold sGii at hs ⊢
  split at hs
  · exact h _ _ _ _ _ _ _ _
  · exact hs.elim
def wrongB (f : Int) : Bool := outB f (-10000) 10000
def s1 (f : Int → Bool) : List AV → Sd × AV
  | [.c (.v (.int .i64 a))] => (.t, boolV (f a))
  | _ => (.p False, .top)
theorem s1_ok {f : FuncId} {g : Int → Bool} (h : ∀ a, Fn1 Try.prog f [intV a] (boolV (g a))) : ∀ args, (s1 g args).1.ok → (s1 g args).2.exact.isSome = true → Fn1 Try.prog f args (s1 g args).2 := fun args hs _ => by
  unfold s1 at hs ⊢
  split at hs
  · exact h _
  · exact hs.elim

def chkG (s l m d b r : Int) : Int := if badG s l m d b r then 4 else 0
def gamG2 : Gam := fun f => match f with
  | 64 => some (s3 outB)
  | 16 => some (sG (fun _ _ _ _ _ _ => True) fun s l m d b r => intV (chkG s l m d b r))
  | 62 => some (s1 wrongB)
  | 63 => some (sGi preG fun s l m d b _ f => intV (tgt s l m d b f))
  | _ => none
theorem gamG2_ok : GOk Try.prog gamG2 := fun f g h => by
  unfold gamG2 at h
  split at h
  · injection h with h; subst h; exact s3_ok gout
  · injection h with h; subst h; exact sG_ok fun s l m d b r _ => gCheck s l m d b r
  · injection h with h; subst h; exact s1_ok gwrong
  · injection h with h; subst h; exact sGi_ok gtarget
  · cases h

/-- Target's power and error -/
def tgP (s l m d b r f : Int) : Int := if chkG s l m d b r ≠ 0 then 0 else if outB f (-10000) 10000 = true then 0 else tgt s l m d b f
def tgE (s l m d b r f : Int) : Int := if chkG s l m d b r ≠ 0 then chkG s l m d b r else if outB f (-10000) 10000 = true then 4 else 0

theorem chk_ok {s l m d b r : Int} (h : chkG s l m d b r = 0) : badG s l m d b r = false := by
  cases hb : badG s l m d b r
  · rfl
  · simp [chkG, hb] at h

theorem gTarget (s l m d b r f : Int) : Fn1 Try.prog 13 [govV s l m d b r, intV f] (.tup [intV (tgP s l m d b r f), intV (tgE s l m d b r f)]) := by
  refine fn_of_wpx (O := lex) tab_ok gamG2_ok mixed Try.func13 (by kernel_rfl) rfl rfl rfl (by simp [Try.ntmps13]) (by kernel_rfl) ?_
  conv => whnf
  repeat' (first
    | (refine Br.mk (fun hb => ?_) (fun hb => ?_) <;> (first | (exfalso; revert hb; decide) | (conv => whnf)))
    | (refine And.intro ?_ ?_; (focus (first | exact id | exact rfl | exact trivial | (intro hg; first | exact hg | exact rfl | (simpa using hg)) | omega | decide)); conv => whnf)
    | (refine Or.inr (And.intro rfl ?_); first | (refine congrArg intV ?_) | (refine congrArg boolV ?_) | (refine tupII ?_ ?_)))
  · simp_all [tgP]
  · simp_all [tgE]
  · simp_all [tgP, wrongB]
  · simp_all [tgE, wrongB]
  · rename_i h1
    refine And.intro (⟨chk_ok (by simpa using h1), hb⟩) ?_
    conv => whnf
    repeat' (first
      | (refine Br.mk (fun hb => ?_) (fun hb => ?_) <;> (first | (exfalso; revert hb; decide) | (conv => whnf)))
      | (refine And.intro ?_ ?_; (focus (first | exact id | exact rfl | exact trivial | (intro hg; first | exact hg | exact rfl | (simpa using hg)) | omega | decide)); conv => whnf)
      | (refine Or.inr (And.intro rfl ?_); first | (refine congrArg intV ?_) | (refine congrArg boolV ?_) | (refine tupII ?_ ?_)))
    · simp_all [tgP, wrongB]
    · simp_all [tgE, wrongB]

def gamG3 : Gam := fun f => match f with
  | 64 => some (s3 outB)
  | 13 => some (sGi (fun _ _ _ _ _ _ _ => True) fun s l m d b r f => .tup [intV (tgP s l m d b r f), intV (tgE s l m d b r f)])
  | _ => none
theorem gamG3_ok : GOk Try.prog gamG3 := fun f g h => by
  unfold gamG3 at h
  split at h
  · injection h with h; subst h; exact s3_ok gout
  · injection h with h; subst h; exact sGi_ok fun s l m d b r f _ => gTarget s l m d b r f
  · cases h

def nxP (s l m d b r now f : Int) : Int := if tgE s l m d b r f ≠ 0 then 0 else if outB now l m = true then 0 else min (max (tgP s l m d b r f) (wr (now - r))) (wr (now + r))
def nxE (s l m d b r now f : Int) : Int := if tgE s l m d b r f ≠ 0 then tgE s l m d b r f else if outB now l m = true then 11 else 0

theorem gNext (s l m d b r now f : Int) : Fn1 Try.prog 14 [govV s l m d b r, intV now, intV f] (.tup [intV (nxP s l m d b r now f), intV (nxE s l m d b r now f)]) := by
  refine fn_of_wpx (O := lex) tab_ok gamG3_ok mixed Try.func14 (by kernel_rfl) rfl rfl rfl (by simp [Try.ntmps14]) (by kernel_rfl) ?_
  conv => whnf
  repeat' (first
    | (refine Br.mk (fun hb => ?_) (fun hb => ?_) <;> (first | (exfalso; revert hb; decide) | (conv => whnf)))
    | (refine And.intro ?_ ?_; (focus (first | exact id | exact rfl | exact trivial | (intro hg; first | exact hg | exact rfl | (simpa using hg)) | omega | decide)); conv => whnf)
    | (refine Or.inr (And.intro rfl ?_); first | (refine congrArg intV ?_) | (refine congrArg boolV ?_) | (refine tupII ?_ ?_)))
  · simp_all [nxP]
  · simp_all [nxE]
  · simp_all [nxP]
  · simp_all [nxE]
  · simp_all [nxP]
  · simp_all [nxE]

theorem eq_div {e d w : Int} (hd : 1 ≤ d) (h1 : w * d ≤ e) (h2 : e < (w + 1) * d) : e / d = w :=
  Int.le_antisymm (Int.lt_add_one_iff.1 ((Int.ediv_lt_iff_lt_mul (by omega)).2 h2)) ((Int.le_ediv_iff_mul_le (by omega)).2 h1)

/-- the reference's target: found by three loops -/
theorem gRef (s l m d b r f : Int) (h : preG s l m d b r f) : Fn1 Try.prog 18 [govV s l m d b r, intV f] (intV (tgt s l m d b f)) := by
  refine fn_of_wpx (O := lex) tab_ok gamG3_ok mixed Try.func18 (by kernel_rfl) rfl rfl rfl (by simp [Try.ntmps18]) (by kernel_rfl) ?_
  have hle := h.le
  conv => whnf
  repeat' (first
    | (refine Br.mk (fun hb => ?_) (fun hb => ?_) <;> (first | (exfalso; revert hb; decide) | (conv => whnf)))
    | (refine And.intro ?_ ?_; (focus (first | exact id | exact rfl | exact trivial | (intro hg; first | exact hg | exact rfl | (simpa using hg)) | omega | decide)); conv => whnf)
    | (refine Or.inr (And.intro rfl ?_); first | (refine congrArg intV ?_) | (refine congrArg boolV ?_) | (refine tupII ?_ ?_)))
  refine sem_loop tab_ok gamG3_ok mixed (by kernel_rfl) (O := lex) (fun e : Int => ⟨[(5, intV e), (2, .lp 0 0), (1, intV f)], [.box [intV s, intV l, intV m, intV d, intV b, intV r]]⟩) (fun e => 0 ≤ e ∧ (e = 0 ∨ f - e + 1 > b)) (fun e => (20001 - e).toNat) ⟨0, [0], by omega, ?_⟩ fun e he => ?_
  · repeat' (first | (refine And.intro ?_ ?_) | exact trivial | (refine congrArg intV ((wr_id (by omega) (by omega)).trans (by omega))) | exact rfl)
  have e1 : IntKind.i64.wrap (f - e) = f - e := wr_id (by omega) (by omega)
  conv => whnf
  repeat' (first
    | (refine Br.mk (fun hb => ?_) (fun hb => ?_) <;> (first | (exfalso; revert hb; decide) | (conv => whnf)))
    | (refine And.intro ?_ ?_; (focus (first | exact id | exact rfl | exact trivial | (intro hg; first | exact hg | exact rfl | (simpa using hg)) | omega | decide)); conv => whnf)
    | (refine Or.inr (And.intro rfl ?_); first | (refine congrArg intV ?_) | (refine congrArg boolV ?_) | (refine tupII ?_ ?_)))
  · rw [e1] at hb
    simp only [Bool.and_eq_true, decide_eq_true_eq] at hb
    refine ⟨e + 1, [0], by omega, by omega, ?_⟩
    repeat' (first | (refine And.intro ?_ ?_) | exact trivial | (refine congrArg intV ((wr_id (by omega) (by omega)).trans (by omega))) | exact rfl)
  rw [e1] at hb
  simp only [Bool.and_eq_false_iff, decide_eq_false_iff_not] at hb
  have hb1 := hb
  clear hb
  refine sem_loop tab_ok gamG3_ok mixed (by kernel_rfl) (O := lex) (fun x : Int => ⟨[(5, intV x), (2, .lp 0 0), (1, intV f)], [.box [intV s, intV l, intV m, intV d, intV b, intV r]]⟩) (fun x => x ≤ e ∧ (x = e ∨ e = 0 ∧ f - x - 1 < -b)) (fun x => (x + 20001).toNat) ⟨e, [0], by omega, ?_⟩ fun x hx => ?_
  · repeat' (first | (refine And.intro ?_ ?_) | exact trivial | (refine congrArg intV ((wr_id (by omega) (by omega)).trans (by omega))) | exact rfl)
  have e2 : IntKind.i64.wrap (f - x) = f - x := wr_id (by omega) (by omega)
  have e3 : IntKind.i64.wrap (0 - b) = 0 - b := wr_id (by omega) (by omega)
  have e4 : IntKind.i64.wrap (0 - x) = 0 - x := wr_id (by omega) (by omega)
  conv => whnf
  repeat' (first
    | (refine Br.mk (fun hb => ?_) (fun hb => ?_) <;> (first | (exfalso; revert hb; decide) | (conv => whnf)))
    | (refine And.intro ?_ ?_; (focus (first | exact id | exact rfl | exact trivial | (intro hg; first | exact hg | exact rfl | (simpa using hg)) | omega | decide)); conv => whnf)
    | (refine Or.inr (And.intro rfl ?_); first | (refine congrArg intV ?_) | (refine congrArg boolV ?_) | (refine tupII ?_ ?_)))
  · rw [e2, e3] at hb
    simp only [Bool.and_eq_true, decide_eq_true_eq] at hb
    refine ⟨x - 1, [0], by omega, by omega, ?_⟩
    repeat' (first | (refine And.intro ?_ ?_) | exact trivial | (refine congrArg intV ((wr_id (by omega) (by omega)).trans (by omega))) | exact rfl)
  · rename_i hb2
    rw [e2, e3] at hb2
    simp only [Bool.and_eq_false_iff, decide_eq_false_iff_not] at hb2
    simp only [decide_eq_true_eq] at hb
    have hdev : devE b f = x := by
      unfold devE
      by_cases h1 : f > b
      · rw [if_pos h1]; omega
      · rw [if_neg h1]
        by_cases h2 : f < -b
        · rw [if_pos h2]; omega
        · rw [if_neg h2]; omega
    refine sem_loop tab_ok gamG3_ok mixed (by kernel_rfl) (O := lex) (fun q : Int => ⟨[(5, intV (-x)), (6, intV q), (7, intV (-1)), (2, .lp 0 0), (1, intV f)], [.box [intV s, intV l, intV m, intV d, intV b, intV r]]⟩) (fun q => 0 ≤ q ∧ q ≤ q * d ∧ q * d ≤ (-x)) (fun q => ((-x) + 1 - q).toNat) ⟨0, [0], by omega, ?_⟩ fun q hq => ?_
    · repeat' (first | (refine And.intro ?_ ?_) | exact trivial | (refine congrArg intV ((wr_id (by omega) (by omega)).trans (by omega))) | exact rfl)
    have e5 : IntKind.i64.wrap (q + 1) = q + 1 := wr_id (by omega) (by omega)
    have e6 : (q + 1) * d = q * d + d := by rw [Int.add_mul, Int.one_mul]
    have e7 : IntKind.i64.wrap ((q + 1) * d) = (q + 1) * d := wr_id (by omega) (by omega)
    have hq' : q + 1 ≤ (q + 1) * d := by omega
    have hfin : IntKind.i64.wrap (s - IntKind.i64.wrap (-1 * q)) = s - -1 * q := by
      have : IntKind.i64.wrap (-1 * q) = -1 * q := wr_id (by omega) (by omega)
      rw [this]
      exact wr_id (by omega) (by omega)
    have htd : (q + 1) * d > (-x) → Int.tdiv x d = -1 * q := fun hgt => by
      have hqe := eq_div (e := -x) (d := d) (w := q) (by omega) hq.2.2 (by omega)
      rw [show x = -(-x) by omega, Int.neg_tdiv, Int.tdiv_eq_ediv_of_nonneg (by omega), hqe]; omega
    conv => whnf
    repeat' (first
      | (refine Br.mk (fun hb => ?_) (fun hb => ?_) <;> (first | (exfalso; revert hb; decide) | (conv => whnf)))
      | (refine And.intro ?_ ?_; (focus (first | exact id | exact rfl | exact trivial | (intro hg; first | exact hg | exact rfl | (simpa using hg)) | omega | decide)); conv => whnf)
      | (refine Or.inr (And.intro rfl ?_); first | (refine congrArg intV ?_) | (refine congrArg boolV ?_) | (refine tupII ?_ ?_)))
    · rename_i hb3
      refine ⟨q + 1, [0], ?_, ?_, ?_⟩
      · rw [e5, e7] at hb
        have := of_decide_eq_true hb
        omega
      · rw [e5, e7] at hb
        have := of_decide_eq_true hb
        omega
      · repeat' (first | (refine And.intro ?_ ?_) | exact trivial | (refine congrArg intV ((wr_id (by omega) (by omega)).trans (by omega))) | exact rfl)
    all_goals
      rename_i g1 g2
      rw [e5, e7] at g1
      have g3 := of_decide_eq_false g1
      simp only [tgt, hdev]
      rw [htd (by omega)]
      first
      | (rw [hfin] at g2 hb ⊢; simp only [decide_eq_false_iff_not] at g2 hb; omega)
      | (rw [hfin] at g2 hb; simp only [decide_eq_true_eq, decide_eq_false_iff_not] at g2 hb; omega)
      | (rw [hfin] at g2; simp only [decide_eq_true_eq, decide_eq_false_iff_not] at g2 hb; omega)
  · rename_i hb2
    rw [e2, e3] at hb2
    simp only [Bool.and_eq_false_iff, decide_eq_false_iff_not] at hb2
    simp only [decide_eq_false_iff_not] at hb
    have hdev : devE b f = x := by
      unfold devE
      by_cases h1 : f > b
      · rw [if_pos h1]; omega
      · rw [if_neg h1]
        by_cases h2 : f < -b
        · rw [if_pos h2]; omega
        · rw [if_neg h2]; omega
    refine sem_loop tab_ok gamG3_ok mixed (by kernel_rfl) (O := lex) (fun q : Int => ⟨[(5, intV (x)), (6, intV q), (7, intV (1)), (2, .lp 0 0), (1, intV f)], [.box [intV s, intV l, intV m, intV d, intV b, intV r]]⟩) (fun q => 0 ≤ q ∧ q ≤ q * d ∧ q * d ≤ (x)) (fun q => ((x) + 1 - q).toNat) ⟨0, [0], by omega, ?_⟩ fun q hq => ?_
    · repeat' (first | (refine And.intro ?_ ?_) | exact trivial | (refine congrArg intV ((wr_id (by omega) (by omega)).trans (by omega))) | exact rfl)
    have e5 : IntKind.i64.wrap (q + 1) = q + 1 := wr_id (by omega) (by omega)
    have e6 : (q + 1) * d = q * d + d := by rw [Int.add_mul, Int.one_mul]
    have e7 : IntKind.i64.wrap ((q + 1) * d) = (q + 1) * d := wr_id (by omega) (by omega)
    have hq' : q + 1 ≤ (q + 1) * d := by omega
    have hfin : IntKind.i64.wrap (s - IntKind.i64.wrap (1 * q)) = s - 1 * q := by
      have : IntKind.i64.wrap (1 * q) = 1 * q := wr_id (by omega) (by omega)
      rw [this]
      exact wr_id (by omega) (by omega)
    have htd : (q + 1) * d > (x) → Int.tdiv x d = 1 * q := fun hgt => by
      have hqe := eq_div (e := x) (d := d) (w := q) (by omega) hq.2.2 (by omega)
      rw [Int.tdiv_eq_ediv_of_nonneg (by omega), hqe]; omega
    conv => whnf
    repeat' (first
      | (refine Br.mk (fun hb => ?_) (fun hb => ?_) <;> (first | (exfalso; revert hb; decide) | (conv => whnf)))
      | (refine And.intro ?_ ?_; (focus (first | exact id | exact rfl | exact trivial | (intro hg; first | exact hg | exact rfl | (simpa using hg)) | omega | decide)); conv => whnf)
      | (refine Or.inr (And.intro rfl ?_); first | (refine congrArg intV ?_) | (refine congrArg boolV ?_) | (refine tupII ?_ ?_)))
    · rename_i hb3
      refine ⟨q + 1, [0], ?_, ?_, ?_⟩
      · rw [e5, e7] at hb
        have := of_decide_eq_true hb
        omega
      · rw [e5, e7] at hb
        have := of_decide_eq_true hb
        omega
      · repeat' (first | (refine And.intro ?_ ?_) | exact trivial | (refine congrArg intV ((wr_id (by omega) (by omega)).trans (by omega))) | exact rfl)
    all_goals
      rename_i g1 g2
      rw [e5, e7] at g1
      have g3 := of_decide_eq_false g1
      simp only [tgt, hdev]
      rw [htd (by omega)]
      first
      | (rw [hfin] at g2 hb ⊢; simp only [decide_eq_false_iff_not] at g2 hb; omega)
      | (rw [hfin] at g2 hb; simp only [decide_eq_true_eq, decide_eq_false_iff_not] at g2 hb; omega)
      | (rw [hfin] at g2; simp only [decide_eq_true_eq, decide_eq_false_iff_not] at g2 hb; omega)

end Go.Proofs.Ytogibhkbckfgbaa
