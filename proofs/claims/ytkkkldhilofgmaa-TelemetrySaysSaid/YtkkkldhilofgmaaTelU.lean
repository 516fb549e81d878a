/-
  telemetry: Take, Value, Skipped.
-/
import Derived.Test.YtkkkldhilofgmaaTelT
namespace Go.Proofs.Ytkkkldhilofgmaa
open Go.RowKit

def Tl.put (t : Tl) (n' i : Nat) (s : ByteArray) (nu ti va mn : Int) : Tl := ⟨n', fun k => if k = i then s else t.nm k, fun k => if k = i then nu else t.nu k, fun k => if k = i then ti else t.ti k, fun k => if k = i then va else t.va k, fun k => if k = i then mn else t.mn k⟩
/-- the points after a message, whether it was taken, the error -/
def tlK (t : Tl) (s : ByteArray) (nu ti va : Int) : Tl × Bool × Int := if msE s nu ti va ≠ 0 then (t, false, msE s nu ti va) else match ffind (sameN t.nm s) t.n with
  | none => if t.n = 24 then (t, false, 9) else (t.put (t.n + 1) t.n s nu ti va 1, true, 0)
  | some i => if nu ≤ t.nu i then (t, false, 0) else if ti < t.ti i then (t, false, 12) else (t.put t.n i s nu ti va (t.mn i + 1), true, 0)
theorem tk_err {t : Tl} {s : ByteArray} {nu ti va : Int} (h : msE s nu ti va ≠ 0) : tlK t s nu ti va = (t, false, msE s nu ti va) := if_pos h
section
variable {t : Tl} {s : ByteArray} {nu ti va : Int} (h0 : msE s nu ti va = 0)
include h0
theorem tk_full (h : fidx (sameN t.nm s) t.n < 0) (hn : t.n = 24) : tlK t s nu ti va = (t, false, 9) := by
  unfold tlK
  unfold fidx at h
  rw [if_neg (fun h => h h0)]
  cases e : ffind (sameN t.nm s) t.n with
  | none => exact if_pos hn
  | some i => rw [e] at h; simp only [] at h; omega
theorem tk_new (h : fidx (sameN t.nm s) t.n < 0) (hn : t.n ≠ 24) : tlK t s nu ti va = (t.put (t.n + 1) t.n s nu ti va 1, true, 0) := by
  unfold tlK
  unfold fidx at h
  rw [if_neg (fun h => h h0)]
  cases e : ffind (sameN t.nm s) t.n with
  | none => exact if_neg hn
  | some i => rw [e] at h; simp only [] at h; omega
theorem tk_old (h : ¬ fidx (sameN t.nm s) t.n < 0) (hl : nu ≤ t.nu (fidx (sameN t.nm s) t.n).toNat) : tlK t s nu ti va = (t, false, 0) := by
  unfold tlK
  unfold fidx at h hl
  rw [if_neg (fun h => h h0)]
  cases e : ffind (sameN t.nm s) t.n with
  | none => rw [e] at h; exact absurd (show (-1 : Int) < 0 by decide) h
  | some i => rw [e] at hl; exact if_pos hl
theorem tk_time (h : ¬ fidx (sameN t.nm s) t.n < 0) (hl : ¬ nu ≤ t.nu (fidx (sameN t.nm s) t.n).toNat) (ht : ti < t.ti (fidx (sameN t.nm s) t.n).toNat) : tlK t s nu ti va = (t, false, 12) := by
  unfold tlK
  unfold fidx at h hl ht
  rw [if_neg (fun h => h h0)]
  cases e : ffind (sameN t.nm s) t.n with
  | none => rw [e] at h; exact absurd (show (-1 : Int) < 0 by decide) h
  | some i =>
    rw [e] at hl ht
    exact (if_neg hl).trans (if_pos ht)
theorem tk_put (h : ¬ fidx (sameN t.nm s) t.n < 0) (hl : ¬ nu ≤ t.nu (fidx (sameN t.nm s) t.n).toNat) (ht : ¬ ti < t.ti (fidx (sameN t.nm s) t.n).toNat) : tlK t s nu ti va = (t.put t.n (fidx (sameN t.nm s) t.n).toNat s nu ti va (t.mn (fidx (sameN t.nm s) t.n).toNat + 1), true, 0) := by
  unfold tlK
  unfold fidx at h hl ht ⊢
  rw [if_neg (fun h => h h0)]
  cases e : ffind (sameN t.nm s) t.n with
  | none => rw [e] at h; exact absurd (show (-1 : Int) < 0 by decide) h
  | some i =>
    rw [e] at hl ht
    exact (if_neg hl).trans (if_neg ht)
end
def tlOf (n : Nat) (g : Nat → Nat → L) : Tl := ⟨n, dS g, fun k => (g k 1).toI, fun k => (g k 2).toI, fun k => (g k 3).toI, fun k => (g k 4).toI⟩
def sIx (G : Int → Tl → ByteArray → AV) : List AV → Sd × AV
  | [.xp 2 f, .c (.v (.string s))] => match f 0, f 1 with
    | .v (.int .i64 age), .sl 5 n g => (.p (n ≤ 1000 ∧ Sh n 5 g (cP (tlOf n g))), G age (tlOf n g) s)
    | _, _ => (.p False, .top)
  | _ => (.p False, .top)
theorem ptF_le {f : Nat → L} {age : Int} {n : Nat} {g : Nat → Nat → L} (h0 : f 0 = .v (.int .i64 age)) (h1 : f 1 = .sl 5 n g) (h : Sh n 5 g (cP (tlOf n g))) : Le1 (.xp 2 f) (.xp 2 (ptF age (tlOf n g))) := Le1.xp fun j hj => by
  match j, hj with
  | 0, _ => rw [h0]; exact LLe.refl _
  | 1, _ => rw [h1]; exact LLe.sl h.shL
theorem sIx_ok {f : FuncId} {G : Int → Tl → ByteArray → AV} (h : ∀ age t s, t.n ≤ 1000 → Fn1 Try.prog f [.xp 2 (ptF age t), strV s] (G age t s)) : ∀ args, (sIx G args).1.ok → (sIx G args).2.exact.isSome = true → Fn1 Try.prog f args (sIx G args).2 := fun args hs _ => by
  unfold sIx at hs ⊢
  split at hs
  · split at hs
    · rename_i h0 h1
      exact (h _ _ _ hs.1).le (Le.cons (ptF_le h0 h1 hs.2) (Le.cons (Le1.refl _) Le.nil))
    · exact hs.elim
  · exact hs.elim
def sMs (G : ByteArray → Int → Int → Int → AV) : List AV → Sd × AV
  | [.agg [.c (.v (.string s)), .c (.v (.int .i64 a)), .c (.v (.int .i64 b)), .c (.v (.int .i64 c))]] => (.p (s.size ≤ maxLen), G s a b c)
  | _ => (.p False, .top)
theorem sMs_ok {f : FuncId} {G} (h : ∀ s a b c, s.size ≤ maxLen → Fn1 Try.prog f [mV s a b c] (G s a b c)) : ∀ args, (sMs G args).1.ok → (sMs G args).2.exact.isSome = true → Fn1 Try.prog f args (sMs G args).2 := fun args hs _ => by
  unfold sMs at hs ⊢
  split at hs
  · exact h _ _ _ _ hs
  · exact hs.elim
def gamT2 : Gam := fun f => match f with
  | 93 => some (sMs fun s a b c => intV (msE s a b c))
  | 94 => some (sIx fun _ t s => intV (fidx (sameN t.nm s) t.n))
  | _ => none
theorem gamT2_ok : GOk Try.prog gamT2 := fun f g h => by
  unfold gamT2 at h
  split at h
  · injection h with h; subst h; exact sMs_ok tlChk
  · injection h with h; subst h; exact sIx_ok tlIndex
  · cases h
abbrev ptB (age : Int) : OB := .box [intV age, .own 1]
abbrev ptR (t : Tl) : OB := .row 151 5 t.n false (cP t)
def ordTk : Ord := fun id => if id = 9 then some (.go 0 (.go 1 (.go 2 (.go 3 (.go 5 (.go 6 (.fork (.alt 4 (.go 7 (.go 8 (.go 9 (.go 10 (.go 11 (.done)))))) (.alt 7 (.go 4 (.go 8 (.go 9 (.go 10 (.go 11 (.done)))))) (.none)))))))))) else none
theorem cP_ne {t : Tl} {n' i : Nat} {s : ByteArray} {nu ti va mn : Int} {a : Nat} (h : a ≠ i) (b : Nat) : cP (t.put n' i s nu ti va mn) a b = cP t a b := by
  show [sL (if a = i then s else t.nm a), iL (if a = i then nu else t.nu a), iL (if a = i then ti else t.ti a), iL (if a = i then va else t.va a), iL (if a = i then mn else t.mn a)].getD b .un = _
  rw [if_neg h, if_neg h, if_neg h, if_neg h, if_neg h]
  rfl
theorem cP_eq (t : Tl) (n' i : Nat) (s : ByteArray) (nu ti va mn : Int) (b : Nat) : cP (t.put n' i s nu ti va mn) i b = [sL s, iL nu, iL ti, iL va, iL mn].getD b .un := by
  show [sL (if i = i then s else t.nm i), iL (if i = i then nu else t.nu i), iL (if i = i then ti else t.ti i), iL (if i = i then va else t.va i), iL (if i = i then mn else t.mn i)].getD b .un = _
  rw [if_pos rfl, if_pos rfl, if_pos rfl, if_pos rfl, if_pos rfl]
def tkPost (age : Int) (t : Tl) (x : Tl × Bool × Int) (obs : List OB) (r : AV) : Prop := r = .tup [boolV x.2.1, intV x.2.2] ∧ (x.1.n = t.n ∧ obs = [ptB age, ptR x.1] ∨ x.1.n ≠ t.n ∧ obs = [.box [intV age, .own 2], .dead, ptR x.1])
theorem tlTake (age : Int) (t : Tl) (s : ByteArray) (nu ti va : Int) (hs : s.size ≤ maxLen) (hn : t.n ≤ 24) (hm : ∀ k, k < t.n → 0 ≤ t.mn k ∧ t.mn k ≤ 1000) : FnM Try.prog 50 [ptB age, ptR t] [.lp 0 0, mV s nu ti va] (tkPost age t (tlK t s nu ti va)) := by
  refine fnM_of_wpx (O := ordTk) tab_ok gamT2_ok mixed Try.func50 (by kernel_rfl) rfl rfl rfl (by simp [Try.ntmps50]) (by kernel_rfl) ?_
  have hfu : fidx (sameN (tlOf t.n (cP t)).nm s) (tlOf t.n (cP t)).n < t.n := fidx_up _ _
  conv => whnf
  repeat' (first
    | (refine NilG.mk fun bn hbn hbx => ?_; conv => whnf)
    | (refine Both.mk ?_ ?_ <;> conv => whnf)
    | exact trivial
    | (refine Br.mk (fun hb => ?_) (fun hb => ?_) <;> (first | (exfalso; revert hb; decide) | ((try simp only [BL] at hb) <;> (try simp only [DL] at hb) <;> conv => whnf)))
    | (refine And.intro ?_ ?_; (focus (first | exact id | exact rfl | exact trivial | (intro hg; first | exact hg | exact rfl | (simp; done) | (simp at hg ⊢; assumption)) | omega | decide | exact is2_c _ _ _ | exact is1_c _ _ | exact isS_c _ _ | exact isB_c _ _ | exact Nat.le_refl _ | assumption | exact mulLe (by decide) (by omega) | exact mulLe2 (by decide) (by omega) (by omega) | (intros; simp only [BL] at *; omega) | (intros; (try simp only [BL] at *); (try simp only [DL] at *); omega) | (intros; simp only [BL] at *; rw [wr_id (by omega) (by omega)]; omega) | (intro h1 h2; exact Bool.and_eq_true_iff.2 ⟨h1, h2⟩) | first | exact hs | exact ⟨by omega, fun _ _ _ _ => rfl⟩ | (intros; simp_all; done))); conv => whnf)
    | (refine Or.inr (And.intro rfl ?_); first | (refine congrArg intV ?_) | (refine congrArg boolV ?_) | (refine tupII ?_ ?_) | (refine tupIII ?_ ?_ ?_) | (refine tupU ?_ ?_ ?_ ?_ ?_) | exact rfl))
  · have hK := tk_err (t := t) (s := s) (nu := nu) (ti := ti) (va := va) hb
    refine ⟨[0, 1], [ptB age, ptR t], .tup [boolV false, intV (msE s nu ti va)], rfl, ?_, rfl, rfl, ?_, Nat.le_refl _, by rw [hK], .inl ⟨(congrArg (fun z => z.1.n) hK : _), by rw [hK]⟩⟩
    all_goals repeat' (first | (refine And.intro ?_ ?_) | exact trivial | exact rfl | exact fun h => Bool.noConfusion h | exact fun _ _ _ _ => rfl)
  · rename_i h1
    have hK := tk_full (t := t) (s := s) (nu := nu) (ti := ti) (va := va) h1 hb.1 (by have := hb.2; omega)
    refine ⟨[0, 1], [ptB age, ptR t], .tup [boolV false, intV 9], rfl, ?_, rfl, rfl, ?_, Nat.le_refl _, by rw [hK], .inl ⟨(congrArg (fun z => z.1.n) hK : _), by rw [hK]⟩⟩
    all_goals repeat' (first | (refine And.intro ?_ ?_) | exact trivial | exact rfl | exact fun h => Bool.noConfusion h | exact fun _ _ _ _ => rfl)
  iterate 2
    · rename_i h1 h2
      have hK := tk_new (t := t) (s := s) (nu := nu) (ti := ti) (va := va) h1 hb (by rcases h2 with h2 | h2 <;> omega)
      refine ⟨[0, 1, 4], [.box [intV age, .own 2], .dead, ptR (t.put (t.n + 1) t.n s nu ti va 1)], .tup [boolV true, intV 0], rfl, ?_, rfl, rfl, ?_, Nat.le_add_right 2 1, by rw [hK], .inr ⟨by rw [hK]; exact Nat.succ_ne_self t.n, by rw [hK]⟩⟩
      all_goals repeat' (first | (refine And.intro ?_ ?_) | exact trivial | exact rfl | exact fun h => Bool.noConfusion h)
      intro a ha b hb9
      have hb9 : b < 5 := hb9
      by_cases e : a < t.n
      · exact (if_pos e).trans (cP_ne (by omega) b).symm
      · have e : a = t.n := by omega
        refine (if_neg (by omega)).trans ?_
        rw [e, Nat.sub_self, cP_eq]
        match b, hb9 with
        | 0, _ => rfl
        | 1, _ => rfl
        | 2, _ => rfl
        | 3, _ => rfl
        | 4, _ => rfl
  · rename_i h1 h2 h3
    have hK := tk_old (t := t) (s := s) (nu := nu) (ti := ti) (va := va) h1 h3 hb
    refine ⟨[0, 1], [ptB age, ptR t], .tup [boolV false, intV 0], rfl, ?_, rfl, rfl, ?_, Nat.le_refl _, by rw [hK], .inl ⟨(congrArg (fun z => z.1.n) hK : _), by rw [hK]⟩⟩
    all_goals repeat' (first | (refine And.intro ?_ ?_) | exact trivial | exact rfl | exact fun h => Bool.noConfusion h | exact fun _ _ _ _ => rfl)
  · rename_i h1 h2 h3 h4
    have hK := tk_time (t := t) (s := s) (nu := nu) (ti := ti) (va := va) h1 h3 h4 hb
    refine ⟨[0, 1], [ptB age, ptR t], .tup [boolV false, intV 12], rfl, ?_, rfl, rfl, ?_, Nat.le_refl _, by rw [hK], .inl ⟨(congrArg (fun z => z.1.n) hK : _), by rw [hK]⟩⟩
    all_goals repeat' (first | (refine And.intro ?_ ?_) | exact trivial | exact rfl | exact fun h => Bool.noConfusion h | exact fun _ _ _ _ => rfl)
  · rename_i h1 h2 h3 h4
    have hK := tk_put (t := t) (s := s) (nu := nu) (ti := ti) (va := va) h1 h3 h4 hb
    refine ⟨[0, 1], [ptB age, ptR (t.put t.n (fidx (sameN t.nm s) t.n).toNat s nu ti va (t.mn (fidx (sameN t.nm s) t.n).toNat + 1))], .tup [boolV true, intV 0], rfl, ?_, rfl, rfl, ?_, Nat.le_refl _, by rw [hK], .inl ⟨(congrArg (fun z => z.1.n) hK : _), by rw [hK]⟩⟩
    all_goals repeat' (first | (refine And.intro ?_ ?_) | exact trivial | exact rfl | exact fun h => Bool.noConfusion h)
    intro a ha b hb9
    have hb9 : b < 5 := hb9
    have hfu : fidx (sameN t.nm s) t.n < t.n := hfu
    have h3 : ¬ fidx (sameN t.nm s) t.n < 0 := h3
    by_cases e : a = (fidx (sameN t.nm s) t.n).toNat
    · have hmm := hm a ha
      have hw : IntKind.i64.wrap (t.mn (fidx (sameN t.nm s) t.n).toNat + 1) = t.mn (fidx (sameN t.nm s) t.n).toNat + 1 := by rw [← e]; exact wr_id (by omega) (by omega)
      refine (if_pos e).trans ((if_pos ⟨Nat.zero_le _, hb9⟩).trans ?_)
      rw [e, cP_eq, ← hw]
      match b, hb9 with
      | 0, _ => rfl
      | 1, _ => rfl
      | 2, _ => rfl
      | 3, _ => rfl
      | 4, _ => rfl
    · exact (if_neg e).trans (cP_ne e b).symm
end Go.Proofs.Ytkkkldhilofgmaa
