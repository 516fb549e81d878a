/-
  Load shedding: a step.
-/
import Derived.Test.YtmhjkleknpdkgaaShdW
namespace Go.Proofs.Ytmhjkleknpdkgaa
open Go.RowKit

def inI (x : Nat → Int) (n : Nat) (v : Int) : Bool := decide (fidx (fun j => decide (v = x j)) n ≥ 0)
theorem shIx (n : Nat) (x : Nat → Int) (v : Int) (hn : n ≤ maxLen) : Fn1 Try.prog 28 [.c (.sl 1 n (c1 x)), intV v] (intV (fidx (fun j => decide (v = x j)) n)) := by
  refine fn_of_wpx (O := lex) tab_ok (Γ := fun _ => none) (fun _ _ h => by cases h) mixed Try.func28 (by kernel_rfl) rfl rfl rfl (by simp [Try.ntmps28]) (by kernel_rfl) ?_
  have hn' : n ≤ 9223372036854775807 := hn
  conv => whnf
  repeat' (first
    | (refine NilG.mk fun bn hbn hbx => ?_; conv => whnf)
    | (refine Both.mk ?_ ?_ <;> conv => whnf)
    | exact trivial
    | (refine Br.mk (fun hb => ?_) (fun hb => ?_) <;> (first | (exfalso; revert hb; decide) | ((try simp only [BL] at hb) <;> (try simp only [DL] at hb) <;> conv => whnf)))
    | (refine And.intro ?_ ?_; (focus (first | exact id | exact rfl | exact trivial | (intro hg; first | exact hg | exact rfl | (simp; done) | (simp at hg ⊢; assumption)) | omega | decide | exact is2_c _ _ _ | exact is1_c _ _ | exact isS_c _ _ | exact isB_c _ _ | exact Nat.le_refl _ | assumption | exact mulLe (by decide) (by omega) | exact mulLe2 (by decide) (by omega) (by omega) | (intros; simp only [BL] at *; omega) | (intros; (try simp only [BL] at *); (try simp only [DL] at *); omega) | (intros; simp only [BL] at *; rw [wr_id (by omega) (by omega)]; omega) | (intro h1 h2; exact Bool.and_eq_true_iff.2 ⟨h1, h2⟩) | (intros; simp_all; done))); conv => whnf)
    | (refine Or.inr (And.intro rfl ?_); first | (refine congrArg intV ?_) | (refine congrArg boolV ?_) | (refine tupII ?_ ?_) | (refine tupIII ?_ ?_ ?_) | (refine tupU ?_ ?_ ?_ ?_ ?_) | exact rfl))
  refine sem_loop tab_ok gamN1_ok mixed (by kernel_rfl) (O := lex) (fun i : Nat => ⟨[(0, .c (.sl 1 n (c1 x))), (1, intV v), (7, intV n), (8, intV i)], []⟩) (fun i => i ≤ n ∧ ∀ k, k < i → decide (v = x k) = false) (fun i => n - i) ⟨0, [], ⟨Nat.zero_le _, fun k hk => absurd hk (Nat.not_lt_zero _)⟩, ?_⟩ fun i hi => ?_
  · refine Sub.of ?_ ?_ ?_
    repeat' (first | (refine And.intro ?_ ?_) | exact trivial | exact fun _ _ _ => hsc _ _ | (exact congrArg intV (by first | with_reducible rfl | with_reducible assumption)) | exact (rfl : AV.idsLt _ _ = true) | exact (rfl : _ = AV.ren _ (.own _)) | exact (rfl : _ = AV.ren _ (.fn _ _)) | exact (rfl : _ = AV.ren _ (.gh _)) | (exact congrArg intV (by assumption)) | (refine congrArg intV ((wr_id (by omega) (by omega)).trans (by omega))) | exact rfl | (simp only [Int.toNat_natCast, Int.toNat_zero, Nat.sub_zero, Nat.zero_add]; first | exact rfl | done) | exact all0 | exact fun h => Bool.noConfusion h | exact fun _ _ _ _ => rfl | omega)
  conv => whnf
  repeat' (first
    | (refine NilG.mk fun bn hbn hbx => ?_; conv => whnf)
    | (refine Both.mk ?_ ?_ <;> conv => whnf)
    | exact trivial
    | (refine Br.mk (fun hb => ?_) (fun hb => ?_) <;> (first | (exfalso; revert hb; decide) | ((try simp only [BL] at hb) <;> (try simp only [DL] at hb) <;> (first | (exfalso; omega) | (conv => whnf)))))
    | (refine And.intro ?_ ?_; (focus (first | exact id | exact rfl | exact trivial | (intro hg; first | exact hg | exact rfl | (simp; done) | (simp at hg ⊢; assumption)) | omega | decide | exact is2_c _ _ _ | exact is1_c _ _ | exact isS_c _ _ | exact isB_c _ _ | exact Nat.le_refl _ | assumption | exact mulLe (by decide) (by omega) | exact mulLe2 (by decide) (by omega) (by omega) | (intros; simp only [BL] at *; omega) | (intros; (try simp only [BL] at *); (try simp only [DL] at *); omega) | (intros; simp only [BL] at *; rw [wr_id (by omega) (by omega)]; omega) | (intro h1 h2; exact Bool.and_eq_true_iff.2 ⟨h1, h2⟩) | (intros; simp_all; done))); conv => whnf)
    | (refine Or.inr (And.intro rfl ?_); first | (refine congrArg intV ?_) | (refine congrArg boolV ?_) | (refine tupII ?_ ?_) | (refine tupIII ?_ ?_ ?_) | (refine tupU ?_ ?_ ?_ ?_ ?_) | exact rfl))
  · exact (fidx_at hi.2 (decide_eq_true hb) (by omega)).symm
  · refine ⟨i + 1, [], ⟨by omega, fun k hk => by
        rcases Nat.lt_succ_iff_lt_or_eq.1 hk with h | rfl
        · exact hi.2 k h
        · exact decide_eq_false hb⟩, by omega, ?_⟩
    refine Sub.of ?_ ?_ ?_
    repeat' (first | (refine And.intro ?_ ?_) | exact trivial | exact fun _ _ _ => hsc _ _ | (exact congrArg intV (by first | with_reducible rfl | with_reducible assumption)) | exact (rfl : AV.idsLt _ _ = true) | exact (rfl : _ = AV.ren _ (.own _)) | exact (rfl : _ = AV.ren _ (.fn _ _)) | exact (rfl : _ = AV.ren _ (.gh _)) | (exact congrArg intV (by assumption)) | (refine congrArg intV ((wr_id (by omega) (by omega)).trans (by omega))) | exact rfl | (simp only [Int.toNat_natCast, Int.toNat_zero, Nat.sub_zero, Nat.zero_add]; first | exact rfl | done) | exact all0 | exact fun h => Bool.noConfusion h | exact fun _ _ _ _ => rfl | omega)
  · obtain rfl : i = n := by omega
    exact (fidx_none hi.2).symm
theorem shIn (n : Nat) (x : Nat → Int) (v : Int) (hn : n ≤ maxLen) : Fn1 Try.prog 21 [.c (.sl 1 n (c1 x)), intV v] (boolV (inI x n v)) := by
  refine fn_of_wpx (O := lex) tab_ok (Γ := fun _ => none) (fun _ _ h => by cases h) mixed Try.func21 (by kernel_rfl) rfl rfl rfl (by simp [Try.ntmps21]) (by kernel_rfl) ?_
  conv => whnf
  repeat' (first
    | (refine NilG.mk fun bn hbn hbx => ?_; conv => whnf)
    | (refine Both.mk ?_ ?_ <;> conv => whnf)
    | exact trivial
    | (refine Br.mk (fun hb => ?_) (fun hb => ?_) <;> (first | (exfalso; revert hb; decide) | ((try simp only [BL] at hb) <;> (try simp only [DL] at hb) <;> conv => whnf)))
    | (refine And.intro ?_ ?_; (focus (first | exact id | exact rfl | exact trivial | (intro hg; first | exact hg | exact rfl | (simp; done) | (simp at hg ⊢; assumption)) | omega | decide | exact is2_c _ _ _ | exact is1_c _ _ | exact isS_c _ _ | exact isB_c _ _ | exact Nat.le_refl _ | assumption | exact mulLe (by decide) (by omega) | exact mulLe2 (by decide) (by omega) (by omega) | (intros; simp only [BL] at *; omega) | (intros; (try simp only [BL] at *); (try simp only [DL] at *); omega) | (intros; simp only [BL] at *; rw [wr_id (by omega) (by omega)]; omega) | (intro h1 h2; exact Bool.and_eq_true_iff.2 ⟨h1, h2⟩) | (intros; simp_all; done))); conv => whnf)
    | (refine Or.inr (And.intro rfl ?_); first | (refine congrArg intV ?_) | (refine congrArg boolV ?_) | (refine tupII ?_ ?_) | (refine tupIII ?_ ?_ ?_) | (refine tupU ?_ ?_ ?_ ?_ ?_) | exact rfl))
  refine CallG.mk (Fn.mono (shIx n x v hn) ?_)
  rintro obs r ⟨rfl, rfl⟩
  conv => whnf
  repeat' (first
    | (refine NilG.mk fun bn hbn hbx => ?_; conv => whnf)
    | (refine Both.mk ?_ ?_ <;> conv => whnf)
    | exact trivial
    | (refine Br.mk (fun hb => ?_) (fun hb => ?_) <;> (first | (exfalso; revert hb; decide) | ((try simp only [BL] at hb) <;> (try simp only [DL] at hb) <;> conv => whnf)))
    | (refine And.intro ?_ ?_; (focus (first | exact id | exact rfl | exact trivial | (intro hg; first | exact hg | exact rfl | (simp; done) | (simp at hg ⊢; assumption)) | omega | decide | exact is2_c _ _ _ | exact is1_c _ _ | exact isS_c _ _ | exact isB_c _ _ | exact Nat.le_refl _ | assumption | exact mulLe (by decide) (by omega) | exact mulLe2 (by decide) (by omega) (by omega) | (intros; simp only [BL] at *; omega) | (intros; (try simp only [BL] at *); (try simp only [DL] at *); omega) | (intros; simp only [BL] at *; rw [wr_id (by omega) (by omega)]; omega) | (intro h1 h2; exact Bool.and_eq_true_iff.2 ⟨h1, h2⟩) | (intros; simp_all; done))); conv => whnf)
    | (refine Or.inr (And.intro rfl ?_); first | (refine congrArg intV ?_) | (refine congrArg boolV ?_) | (refine tupII ?_ ?_) | (refine tupIII ?_ ?_ ?_) | (refine tupU ?_ ?_ ?_ ?_ ?_) | exact rfl))
  · rfl
theorem inI_iff {l : List Nat} {k : Nat} : inI (lI l) l.length k = true ↔ k ∈ l := by
  unfold inI
  rw [decide_eq_true_eq]
  have hg : ∀ j, j < l.length → ∃ h : j < l.length, lI l j = ((l[j] : Nat) : Int) := fun j hj => ⟨hj, by
    unfold lI
    rw [List.getD_eq_getElem?_getD, List.getElem?_eq_getElem hj]
    rfl⟩
  constructor
  · intro h
    refine Decidable.byContradiction fun hn => ?_
    rw [fidx_none fun j hj => decide_eq_false fun e => hn ?_] at h
    · exact absurd h (by decide)
    · obtain ⟨h1, h2⟩ := hg j hj
      rw [h2] at e
      have : k = l[j] := by omega
      rw [this]
      exact List.getElem_mem h1
  · intro h
    obtain ⟨j, hj, e⟩ := List.getElem_of_mem h
    refine Decidable.byContradiction fun hn => ?_
    have h1 := of_decide_eq_false (fidx_neg hn j hj)
    obtain ⟨h2, h3⟩ := hg j hj
    exact h1 (by rw [h3, e])
theorem shWr (f : Int) : Fn1 Try.prog 20 [intV f] (boolV (decide (f < -10000) || decide (f > 10000))) := by
  refine fn_of_wpx (O := lex) tab_ok (Γ := fun _ => none) (fun _ _ h => by cases h) mixed Try.func20 (by kernel_rfl) rfl rfl rfl (by simp [Try.ntmps20]) (by kernel_rfl) ?_
  conv => whnf
  repeat' (first
    | (refine NilG.mk fun bn hbn hbx => ?_; conv => whnf)
    | (refine Both.mk ?_ ?_ <;> conv => whnf)
    | exact trivial
    | (refine Br.mk (fun hb => ?_) (fun hb => ?_) <;> (first | (exfalso; revert hb; decide) | ((try simp only [BL] at hb) <;> (try simp only [DL] at hb) <;> conv => whnf)))
    | (refine And.intro ?_ ?_; (focus (first | exact id | exact rfl | exact trivial | (intro hg; first | exact hg | exact rfl | (simp; done) | (simp at hg ⊢; assumption)) | omega | decide | exact is2_c _ _ _ | exact is1_c _ _ | exact isS_c _ _ | exact isB_c _ _ | exact Nat.le_refl _ | assumption | exact mulLe (by decide) (by omega) | exact mulLe2 (by decide) (by omega) (by omega) | (intros; simp only [BL] at *; omega) | (intros; (try simp only [BL] at *); (try simp only [DL] at *); omega) | (intros; simp only [BL] at *; rw [wr_id (by omega) (by omega)]; omega) | (intro h1 h2; exact Bool.and_eq_true_iff.2 ⟨h1, h2⟩) | (intros; simp_all; done))); conv => whnf)
    | (refine Or.inr (And.intro rfl ?_); first | (refine congrArg intV ?_) | (refine congrArg boolV ?_) | (refine tupII ?_ ?_) | (refine tupIII ?_ ?_ ?_) | (refine tupU ?_ ?_ ?_ ?_ ?_) | exact rfl))
  · rfl
def s1I (g : Int → Bool) : List AV → Sd × AV
  | [.c (.v (.int .i64 a))] => (.t, boolV (g a))
  | _ => (.p False, .top)
def sIn1 : List AV → Sd × AV
  | [.c (.sl 1 n f), .c (.v (.int .i64 v))] => (.p (is1 n f ∧ n ≤ maxLen), boolV (inI (d0 f) n v))
  | _ => (.p False, .top)
def gamSt : Gam := fun f => match f with
  | 20 => some (s1I fun f => decide (f < -10000) || decide (f > 10000))
  | 21 => some sIn1
  | _ => gamN1 f
theorem gamSt_ok : GOk Try.prog gamSt := fun f g h => by
  unfold gamSt at h
  split at h
  · injection h with h; subst h
    intro args hs _
    unfold s1I at hs ⊢
    split at hs
    · exact shWr _
    · exact hs.elim
  · injection h with h; subst h
    intro args hs _
    unfold sIn1 at hs ⊢
    split at hs
    · exact (shIn _ _ _ hs.2).le (Le.cons (Le1.sl hs.1) (Le.cons (Le1.refl _) Le.nil))
    · exact hs.elim
  · exact gamN1_ok _ _ h
/-- the counts after a step; whether a stage acts now; the stages that act now; their loads -/
def cn1 (s : Shs) (cnt : Nat → Int) (f : Int) (k : Nat) : Int := if f ≥ s.be k then 0 else min (cnt k + 1) (s.wa k)
def nwP (s : Shs) (cnt : Nat → Int) (f : Int) (ac : List Nat) (k : Nat) : Prop := f < s.be k ∧ cn1 s cnt f k = s.wa k ∧ ¬ k ∈ ac
instance (s : Shs) (cnt : Nat → Int) (f : Int) (ac : List Nat) (k : Nat) : Decidable (nwP s cnt f ac k) := by unfold nwP; infer_instance
def nwL (s : Shs) (cnt : Nat → Int) (f : Int) (ac : List Nat) : Nat → List Nat
  | 0 => []
  | k + 1 => if nwP s cnt f ac k then nwL s cnt f ac k ++ [k] else nwL s cnt f ac k
theorem nwL_lt {s : Shs} {cnt : Nat → Int} {f : Int} {ac : List Nat} : ∀ {k j : Nat}, j ∈ nwL s cnt f ac k → j < k
  | 0, j, h => (List.not_mem_nil h).elim
  | k + 1, j, h => by
    simp only [nwL] at h
    split at h
    · rcases List.mem_append.1 h with h | h
      · have := nwL_lt h; omega
      · rw [List.mem_singleton.1 h]; omega
    · have := nwL_lt h; omega
theorem nwL_len {s : Shs} {cnt : Nat → Int} {f : Int} {ac : List Nat} : ∀ k, (nwL s cnt f ac k).length ≤ k
  | 0 => Nat.le_refl 0
  | k + 1 => by
    have := nwL_len (s := s) (cnt := cnt) (f := f) (ac := ac) k
    simp only [nwL]
    split
    · rw [List.length_append]; simp; omega
    · omega
/-- the loads of stages -/
def flL (s : Shs) (l : List Nat) : List ByteArray := l.flatMap fun k => ldL s k (s.nl k)
theorem flL_app (s : Shs) (l l' : List Nat) : flL s (l ++ l') = flL s l ++ flL s l' := List.flatMap_append
theorem flL_one (s : Shs) (k : Nat) : flL s [k] = ldL s k (s.nl k) := by unfold flL; simp
theorem flL_len {s : Shs} : ∀ {l : List Nat}, (∀ k, k ∈ l → s.nl k ≤ 12) → (flL s l).length ≤ 12 * l.length
  | [], _ => Nat.le_refl _
  | k :: l, h => by
    have ih := flL_len (s := s) (l := l) fun j hj => h j (List.mem_cons_of_mem _ hj)
    have h1 := h k List.mem_cons_self
    have e : flL s (k :: l) = ldL s k (s.nl k) ++ flL s l := rfl
    rw [e, List.length_append, ldL_len, List.length_cons]
    omega
theorem mem_cur {s : Shs} {cnt : Nat → Int} {f : Int} {ac : List Nat} {k : Nat} : k ∈ ac ++ nwL s cnt f ac k ↔ k ∈ ac := by
  rw [List.mem_append]
  exact ⟨fun h => h.elim id fun h => absurd (nwL_lt h) (Nat.lt_irrefl k), .inl⟩
/-- a step in range -/
def stepK (s : Shs) (cnt : Nat → Int) (f : Int) (ac : List Nat) (obs : List OB) (r : AV) : Prop := r = .tup [.own 4, intV 0] ∧
  ((nwL s cnt f ac s.m = [] ∧ obs = [.box [.own 1, .own 2, .own 3], stR s, ciR s.m (cn1 s cnt f), liR ac, lsR (flL s (nwL s cnt f ac s.m))]) ∨
   ¬ nwL s cnt f ac s.m = [] ∧ obs = [.box [.own 1, .own 2, .own 5], stR s, ciR s.m (cn1 s cnt f), .dead, lsR (flL s (nwL s cnt f ac s.m)), liR (ac ++ nwL s cnt f ac s.m)])
theorem cnt_row {s : Shs} {cnt : Nat → Int} {f v : Int} {i m : Nat} (hv : v = cn1 s cnt f i) : ∀ a, a < m → ∀ b, b < 1 → (if a = (i : Int).toNat then (if 0 ≤ b ∧ b < 0 + [iL v].length then ([iL v][b - 0]?).getD .un else c1 (fun k => if k < i then cn1 s cnt f k else cnt k) a b) else c1 (fun k => if k < i then cn1 s cnt f k else cnt k) a b) = c1 (fun k => if k < i + 1 then cn1 s cnt f k else cnt k) a b := fun a _ b hb => by
  match b, hb with
  | 0, _ =>
    show _ = iL (if a < i + 1 then cn1 s cnt f a else cnt a)
    by_cases e : a = i
    · refine (if_pos (by omega)).trans ((if_pos ⟨Nat.zero_le _, Nat.zero_lt_one⟩).trans (congrArg iL ?_))
      rw [if_pos (by omega), e]; exact hv
    · refine (if_neg (by omega)).trans (congrArg iL ?_)
      show (if a < i then cn1 s cnt f a else cnt a) = _
      by_cases e2 : a < i
      · rw [if_pos e2, if_pos (by omega)]
      · rw [if_neg e2, if_neg (by omega)]
theorem apS_len (s : Shs) (l : List Nat) (k : Nat) : (flL s (l ++ [k])).length = (flL s l).length + s.nl k := by rw [flL_app, flL_one, List.length_append, ldL_len]
theorem apS {s : Shs} {l : List Nat} {k : Nat} : ∀ a, a < (flL s l).length + s.nl k → ∀ b, b < 1 → (if a < (flL s l).length then cS (lS (flL s l)) a b else cS (s.ld k) (a - (flL s l).length) b) = cS (lS (flL s (l ++ [k]))) a b := fun a ha b hb => by
  match b, hb with
  | 0, _ =>
    show _ = sL (lS (flL s (l ++ [k])) a)
    rw [flL_app, flL_one, lS_app]
    by_cases e : a < (flL s l).length
    · rw [if_pos e, if_pos e]; rfl
    · rw [if_neg e, if_neg e, lS_ld s k (s.nl k) (by omega)]; rfl
theorem apI {l : List Nat} {k : Nat} : ∀ a, a < l.length + 1 → ∀ b, b < 1 → (if a < l.length then c1 (lI l) a b else (([iL (k : Int)] : List L)[(a - l.length) * 1 + b]?).getD (.v undef)) = c1 (lI (l ++ [k])) a b := fun a ha b hb => by
  match b, hb with
  | 0, _ =>
    show _ = iL (lI (l ++ [k]) a)
    rw [lI_app]
    by_cases e : a < l.length
    · rw [if_pos e, if_pos e]; rfl
    · rw [if_neg e, if_neg e, show a - l.length = 0 by omega]; rfl
set_option maxHeartbeats 4000000 in
theorem shStep0 (s : Shs) (cnt : Nat → Int) (f : Int) (ac : List Nat) (h8 : s.m ≤ 8) (hsk : ∀ k, k < s.m → rgB s k ∧ s.nl k ≤ 12) (hf : -10000 ≤ f ∧ f ≤ 10000) (hc : ∀ k, k < s.m → 0 ≤ cnt k ∧ cnt k ≤ 60) (hac : ac.length ≤ 1000) : FnM Try.prog 7 [.box [.own 1, .own 2, .own 3], stR s, ciR s.m cnt, liR ac] [.lp 0 0, intV f] (stepK s cnt f ac) := by
  refine fnM_of_wpx (O := lex) tab_ok gamSt_ok mixed Try.func7 (by kernel_rfl) rfl rfl rfl (by simp [Try.ntmps7]) (by kernel_rfl) ?_
  conv => whnf
  repeat' (first
    | (refine NilG.mk fun bn hbn hbx => ?_; conv => whnf)
    | (refine Both.mk ?_ ?_ <;> conv => whnf)
    | exact trivial
    | (refine Br.mk (fun hb => ?_) (fun hb => ?_) <;> (first | (exfalso; revert hb; decide) | ((try simp only [BL] at hb) <;> (try simp only [DL] at hb) <;> (first | (exfalso; omega) | (conv => whnf)))))
    | (refine And.intro ?_ ?_; (focus (first | exact id | exact rfl | exact trivial | (intro hg; first | exact hg | exact rfl | (simp; done) | (simp at hg ⊢; assumption)) | omega | decide | exact is2_c _ _ _ | exact is1_c _ _ | exact isS_c _ _ | exact isB_c _ _ | exact Nat.le_refl _ | assumption | exact mulLe (by decide) (by omega) | exact mulLe2 (by decide) (by omega) (by omega) | (intros; simp only [BL] at *; omega) | (intros; (try simp only [BL] at *); (try simp only [DL] at *); omega) | (intros; simp only [BL] at *; rw [wr_id (by omega) (by omega)]; omega) | (intro h1 h2; exact Bool.and_eq_true_iff.2 ⟨h1, h2⟩) | (intros; simp_all; done))); conv => whnf)
    | (refine Or.inr (And.intro rfl ?_); first | (refine congrArg intV ?_) | (refine congrArg boolV ?_) | (refine tupII ?_ ?_) | (refine tupIII ?_ ?_ ?_) | (refine tupU ?_ ?_ ?_ ?_ ?_) | exact rfl))
  refine LoopG.nil 6 9 1 rfl ?_
  refine LoopG.nil 4 9 1 rfl ?_
  refine sem_loop tab_ok gamSt_ok mixed (by kernel_rfl) (O := lex) (fun x : Nat × Bool => ⟨[(0, .lp 0 0), (1, intV f), (6, .own 4), (14, .own 1), (15, intV s.m), (16, intV x.1), (1000000, .gh 0), (1000001, .gh 1), (1000002, .gh 2), (1000003, .gh 3)], [.box [.own 1, .own 2, .own (bif x.2 then 5 else 3)], stR s, ciR s.m fun k => if k < x.1 then cn1 s cnt f k else cnt k, bif x.2 then .dead else liR ac, lsR (flL s (nwL s cnt f ac x.1)), bif x.2 then liR (ac ++ nwL s cnt f ac x.1) else .dead]⟩) (fun x => x.1 ≤ s.m ∧ (x.2 = true ↔ ¬ nwL s cnt f ac x.1 = [])) (fun x => s.m - x.1) ⟨(0, false), [0, 1, 2, 3, 4, 5], ⟨Nat.zero_le _, by simp [nwL]⟩, ?_⟩ fun y hy => ?_
  · refine Sub.of ?_ ?_ ?_
    repeat' (first | (refine And.intro ?_ ?_) | exact trivial | exact fun _ _ _ => hsc _ _ | (exact congrArg intV (by first | with_reducible rfl | with_reducible assumption)) | exact (rfl : AV.idsLt _ _ = true) | exact (rfl : _ = AV.ren _ (.own _)) | exact (rfl : _ = AV.ren _ (.fn _ _)) | exact (rfl : _ = AV.ren _ (.gh _)) | (exact congrArg intV (by assumption)) | (refine congrArg intV ((wr_id (by omega) (by omega)).trans (by omega))) | exact rfl | (simp only [Int.toNat_natCast, Int.toNat_zero, Nat.sub_zero, Nat.zero_add]; first | exact rfl | done) | exact all0 | exact fun h => Bool.noConfusion h | exact fun _ _ _ _ => rfl | omega)
  obtain ⟨i, b⟩ := y
  obtain ⟨hi, hb2⟩ := hy
  dsimp only at hi hb2 ⊢
  have hlt : ∀ k, k < s.m → s.nl k ≤ 12 := fun k hk => (hsk k hk).2
  have hln := nwL_len (s := s) (cnt := cnt) (f := f) (ac := ac) i
  have hfl : (flL s (nwL s cnt f ac i)).length ≤ 96 := by
    have := flL_len (s := s) (l := nwL s cnt f ac i) fun k hk => hlt k (by have := nwL_lt hk; omega)
    omega
  have hla : (ac ++ nwL s cnt f ac i).length ≤ 1008 := by rw [List.length_append]; omega
  have hc9 := fun h : i < s.m => hc i h
  cases b
  · conv => whnf
    repeat' (first
      | (refine NilG.mk fun bn hbn hbx => ?_; conv => whnf)
      | (refine Both.mk ?_ ?_ <;> conv => whnf)
      | exact trivial
      | (refine Br.mk (fun hb => ?_) (fun hb => ?_) <;> (first | (exfalso; revert hb; decide) | ((try simp only [BL] at hb) <;> (try simp only [DL] at hb) <;> (first | (exfalso; omega) | (conv => whnf)))))
      | (refine And.intro ?_ ?_; (focus (first | exact id | exact rfl | exact trivial | (intro hg; first | exact hg | exact rfl | (simp; done) | (simp at hg ⊢; assumption)) | omega | decide | exact is2_c _ _ _ | exact is1_c _ _ | exact isS_c _ _ | exact isB_c _ _ | exact Nat.le_refl _ | assumption | exact mulLe (by decide) (by omega) | exact mulLe2 (by decide) (by omega) (by omega) | (intros; simp only [BL] at *; omega) | (intros; (try simp only [BL] at *); (try simp only [DL] at *); omega) | (intros; simp only [BL] at *; rw [wr_id (by omega) (by omega)]; omega) | (intro h1 h2; exact Bool.and_eq_true_iff.2 ⟨h1, h2⟩) | first | exact ⟨rfl, by omega, by decide⟩ | (intros; simp_all; done))); conv => whnf)
      | (refine Or.inr (And.intro rfl ?_); first | (refine congrArg intV ?_) | (refine congrArg boolV ?_) | (refine tupII ?_ ?_) | (refine tupIII ?_ ?_ ?_) | (refine tupU ?_ ?_ ?_ ?_ ?_) | exact rfl))
    · have hn : nwL s cnt f ac (i + 1) = nwL s cnt f ac i := if_neg fun h => by unfold nwP at h; omega
      have e16 : IntKind.i64.wrap ((i : Int) + 1) = ((i + 1 : Nat) : Int) := (wr_id (by omega) (by omega)).trans (by omega)
      have hcv : (0 : Int) = cn1 s cnt f i := (if_pos hb).symm
      refine ⟨(i + 1, false), [0, 1, 2, 3, 4, 5], ⟨by show i + 1 ≤ s.m; omega, by rw [hn]; exact hb2⟩, by show s.m - (i + 1) < s.m - i; omega, ?_⟩
      refine Sub.of ?_ ?_ ?_
      repeat' (first | (refine And.intro ?_ ?_) | exact trivial | exact fun _ _ _ => hsc _ _ | (exact congrArg intV (by first | with_reducible rfl | with_reducible assumption)) | exact (rfl : AV.idsLt _ _ = true) | exact (rfl : _ = AV.ren _ (.own _)) | exact (rfl : _ = AV.ren _ (.fn _ _)) | exact (rfl : _ = AV.ren _ (.gh _)) | (exact congrArg intV (by assumption)) | (refine congrArg intV ((wr_id (by omega) (by omega)).trans (by omega))) | exact rfl | (simp only [Int.toNat_natCast, Int.toNat_zero, Nat.sub_zero, Nat.zero_add]; first | exact rfl | done) | exact all0 | exact fun h => Bool.noConfusion h | exact fun _ _ _ _ => rfl | omega)
      all_goals first | exact cnt_row hcv | exact congrArg (fun l => (flL s l).length) hn.symm | exact fun a _ b _ => congrArg (fun l => cS (lS (flL s l)) a b) hn.symm | exact congrArg (fun l => (ac ++ l).length) hn.symm | exact fun a _ b _ => congrArg (fun l => c1 (lI (ac ++ l)) a b) hn.symm
    · dsimp only
      rw [if_pos rfl, if_pos ⟨Nat.le_refl 0, Nat.zero_lt_one⟩]
      have him : i < s.m := by omega
      have hci := hc i him
      have hwi := (hsk i him).1
      have e1 : (if i < i then cn1 s cnt f i else cnt i) = cnt i := if_neg (Nat.lt_irrefl i)
      have e2 : IntKind.i64.wrap (cnt i + 1) = cnt i + 1 := wr_id (by omega) (by omega)
      have hcv : min (IntKind.i64.wrap ((if (i : Int).toNat < i then cn1 s cnt f (i : Int).toNat else cnt (i : Int).toNat) + 1)) (s.wa (i : Int).toNat) = cn1 s cnt f i := by
        rw [Int.toNat_natCast, e1, e2]
        exact (if_neg (by omega)).symm
      have hbe := hb
      have hl9 : s.nl (i : Int).toNat ≤ 12 := by rw [Int.toNat_natCast]; exact hlt i him
      have hb16 : e9.bytes = 16 := rfl
      have e16 : IntKind.i64.wrap ((i : Int) + 1) = ((i + 1 : Nat) : Int) := (wr_id (by omega) (by omega)).trans (by omega)
      conv => whnf
      repeat' (first
        | (refine NilG.mk fun bn hbn hbx => ?_; conv => whnf)
        | (refine Both.mk ?_ ?_ <;> conv => whnf)
        | exact trivial
        | (refine Br.mk (fun hb => ?_) (fun hb => ?_) <;> (first | (exfalso; revert hb; decide) | ((try simp only [BL] at hb) <;> (try simp only [DL] at hb) <;> (first | (exfalso; omega) | (conv => whnf)))))
        | (refine And.intro ?_ ?_; (focus (first | exact id | exact rfl | exact trivial | (intro hg; first | exact hg | exact rfl | (simp; done) | (simp at hg ⊢; assumption)) | omega | decide | exact is2_c _ _ _ | exact is1_c _ _ | exact isS_c _ _ | exact isB_c _ _ | exact Nat.le_refl _ | assumption | exact mulLe (by decide) (by omega) | exact mulLe2 (by decide) (by omega) (by omega) | (intros; simp only [BL] at *; omega) | (intros; (try simp only [BL] at *); (try simp only [DL] at *); omega) | (intros; simp only [BL] at *; rw [wr_id (by omega) (by omega)]; omega) | (intro h1 h2; exact Bool.and_eq_true_iff.2 ⟨h1, h2⟩) | first | exact ⟨rfl, by omega, by decide⟩ | exact ⟨is1_c _ _, by unfold maxLen; omega⟩ | exact fun _ => ⟨is1_c _ _, by unfold maxLen; omega⟩ | (rw [hb16]; omega) | (intros; simp_all; done))); conv => whnf)
        | (refine Or.inr (And.intro rfl ?_); first | (refine congrArg intV ?_) | (refine congrArg boolV ?_) | (refine tupII ?_ ?_) | (refine tupIII ?_ ?_ ?_) | (refine tupU ?_ ?_ ?_ ?_ ?_) | exact rfl))
      · rw [e1, e2] at hb
        have hnw : nwP s cnt f ac i := ⟨by omega, (if_neg hbe).trans hb.1, fun h => by
          have h9 : inI (lI ac) (ac).length i = false := hb.2
          rw [inI_iff.2 h] at h9
          cases h9⟩
        have hn : nwL s cnt f ac (i + 1) = nwL s cnt f ac i ++ [i] := if_pos hnw
        have hL : ac ++ nwL s cnt f ac (i + 1) = ac ++ [i] := by rw [hn, Decidable.byContradiction fun h => Bool.noConfusion (hb2.2 h)]; rfl
        refine ⟨(i + 1, true), [0, 1, 2, 3, 9, 8], ⟨by show i + 1 ≤ s.m; omega, by rw [hn]; simp⟩, by show s.m - (i + 1) < s.m - i; omega, ?_⟩
        refine Sub.of ?_ ?_ ?_
        repeat' (first | (refine And.intro ?_ ?_) | exact trivial | exact fun _ _ _ => hsc _ _ | (exact congrArg intV (by first | with_reducible rfl | with_reducible assumption)) | exact (rfl : AV.idsLt _ _ = true) | exact (rfl : _ = AV.ren _ (.own _)) | exact (rfl : _ = AV.ren _ (.fn _ _)) | exact (rfl : _ = AV.ren _ (.gh _)) | (exact congrArg intV (by assumption)) | (refine congrArg intV ((wr_id (by omega) (by omega)).trans (by omega))) | exact rfl | (simp only [Int.toNat_natCast, Int.toNat_zero, Nat.sub_zero, Nat.zero_add]; first | exact rfl | done) | exact all0 | exact fun h => Bool.noConfusion h | exact fun _ _ _ _ => rfl | omega)
        · exact cnt_row hcv
        · exact ((congrArg (fun l => (flL s l).length) hn).trans (apS_len s _ i)).symm
        · exact fun a ha b hb => (apS a ha b hb).trans (congrArg (fun l => cS (lS (flL s l)) a b) hn.symm)
        · exact ((congrArg List.length hL).trans (by rw [List.length_append]; rfl)).symm
        · exact fun a ha b hb => (apI a ha b hb).trans (congrArg (fun l => c1 (lI l) a b) hL.symm)
      · rw [e1, e2] at hb
        have hn : nwL s cnt f ac (i + 1) = nwL s cnt f ac i := if_neg fun h => by
          obtain ⟨h1, h2, h3⟩ := h
          rcases hb with hb | hb
          · exact hb ((if_neg hbe).symm.trans h2)
          · have h9 : inI (lI ac) (ac).length i = true := hb
            exact h3 (inI_iff.1 h9)
        refine ⟨(i + 1, false), [0, 1, 2, 3, 4, 5], ⟨by show i + 1 ≤ s.m; omega, by rw [hn]; exact hb2⟩, by show s.m - (i + 1) < s.m - i; omega, ?_⟩
        refine Sub.of ?_ ?_ ?_
        repeat' (first | (refine And.intro ?_ ?_) | exact trivial | exact fun _ _ _ => hsc _ _ | (exact congrArg intV (by first | with_reducible rfl | with_reducible assumption)) | exact (rfl : AV.idsLt _ _ = true) | exact (rfl : _ = AV.ren _ (.own _)) | exact (rfl : _ = AV.ren _ (.fn _ _)) | exact (rfl : _ = AV.ren _ (.gh _)) | (exact congrArg intV (by assumption)) | (refine congrArg intV ((wr_id (by omega) (by omega)).trans (by omega))) | exact rfl | (simp only [Int.toNat_natCast, Int.toNat_zero, Nat.sub_zero, Nat.zero_add]; first | exact rfl | done) | exact all0 | exact fun h => Bool.noConfusion h | exact fun _ _ _ _ => rfl | omega)
        all_goals first | exact cnt_row hcv | exact congrArg (fun l => (flL s l).length) hn.symm | exact fun a _ b _ => congrArg (fun l => cS (lS (flL s l)) a b) hn.symm | exact congrArg (fun l => (ac ++ l).length) hn.symm | exact fun a _ b _ => congrArg (fun l => c1 (lI (ac ++ l)) a b) hn.symm
    · obtain rfl : i = s.m := by omega
      refine ⟨[0, 1, 2, 3, 4], [.box [.own 1, .own 2, .own 3], stR s, ciR s.m (cn1 s cnt f), liR ac, lsR (flL s (nwL s cnt f ac s.m))], .tup [.own 4, intV 0], rfl, ?_, rfl, rfl, ?_, Nat.le_add_right 4 1, rfl, .inl ⟨Decidable.byContradiction fun h => Bool.noConfusion (hb2.2 h), rfl⟩⟩
      all_goals repeat' (first | (refine And.intro ?_ ?_) | exact trivial | exact rfl | exact fun h => Bool.noConfusion h | exact fun _ _ _ _ => rfl)
      all_goals
        intro a ha b hb9
        match b, hb9 with
        | 0, _ => exact congrArg iL (if_pos ha)
  · conv => whnf
    repeat' (first
      | (refine NilG.mk fun bn hbn hbx => ?_; conv => whnf)
      | (refine Both.mk ?_ ?_ <;> conv => whnf)
      | exact trivial
      | (refine Br.mk (fun hb => ?_) (fun hb => ?_) <;> (first | (exfalso; revert hb; decide) | ((try simp only [BL] at hb) <;> (try simp only [DL] at hb) <;> (first | (exfalso; omega) | (conv => whnf)))))
      | (refine And.intro ?_ ?_; (focus (first | exact id | exact rfl | exact trivial | (intro hg; first | exact hg | exact rfl | (simp; done) | (simp at hg ⊢; assumption)) | omega | decide | exact is2_c _ _ _ | exact is1_c _ _ | exact isS_c _ _ | exact isB_c _ _ | exact Nat.le_refl _ | assumption | exact mulLe (by decide) (by omega) | exact mulLe2 (by decide) (by omega) (by omega) | (intros; simp only [BL] at *; omega) | (intros; (try simp only [BL] at *); (try simp only [DL] at *); omega) | (intros; simp only [BL] at *; rw [wr_id (by omega) (by omega)]; omega) | (intro h1 h2; exact Bool.and_eq_true_iff.2 ⟨h1, h2⟩) | first | exact ⟨rfl, by omega, by decide⟩ | (intros; simp_all; done))); conv => whnf)
      | (refine Or.inr (And.intro rfl ?_); first | (refine congrArg intV ?_) | (refine congrArg boolV ?_) | (refine tupII ?_ ?_) | (refine tupIII ?_ ?_ ?_) | (refine tupU ?_ ?_ ?_ ?_ ?_) | exact rfl))
    · have hn : nwL s cnt f ac (i + 1) = nwL s cnt f ac i := if_neg fun h => by unfold nwP at h; omega
      have e16 : IntKind.i64.wrap ((i : Int) + 1) = ((i + 1 : Nat) : Int) := (wr_id (by omega) (by omega)).trans (by omega)
      have hcv : (0 : Int) = cn1 s cnt f i := (if_pos hb).symm
      refine ⟨(i + 1, true), [0, 1, 2, 3, 4, 5], ⟨by show i + 1 ≤ s.m; omega, by rw [hn]; exact hb2⟩, by show s.m - (i + 1) < s.m - i; omega, ?_⟩
      refine Sub.of ?_ ?_ ?_
      repeat' (first | (refine And.intro ?_ ?_) | exact trivial | exact fun _ _ _ => hsc _ _ | (exact congrArg intV (by first | with_reducible rfl | with_reducible assumption)) | exact (rfl : AV.idsLt _ _ = true) | exact (rfl : _ = AV.ren _ (.own _)) | exact (rfl : _ = AV.ren _ (.fn _ _)) | exact (rfl : _ = AV.ren _ (.gh _)) | (exact congrArg intV (by assumption)) | (refine congrArg intV ((wr_id (by omega) (by omega)).trans (by omega))) | exact rfl | (simp only [Int.toNat_natCast, Int.toNat_zero, Nat.sub_zero, Nat.zero_add]; first | exact rfl | done) | exact all0 | exact fun h => Bool.noConfusion h | exact fun _ _ _ _ => rfl | omega)
      all_goals first | exact cnt_row hcv | exact congrArg (fun l => (flL s l).length) hn.symm | exact fun a _ b _ => congrArg (fun l => cS (lS (flL s l)) a b) hn.symm | exact congrArg (fun l => (ac ++ l).length) hn.symm | exact fun a _ b _ => congrArg (fun l => c1 (lI (ac ++ l)) a b) hn.symm
    · dsimp only
      rw [if_pos rfl, if_pos ⟨Nat.le_refl 0, Nat.zero_lt_one⟩]
      have him : i < s.m := by omega
      have hci := hc i him
      have hwi := (hsk i him).1
      have e1 : (if i < i then cn1 s cnt f i else cnt i) = cnt i := if_neg (Nat.lt_irrefl i)
      have e2 : IntKind.i64.wrap (cnt i + 1) = cnt i + 1 := wr_id (by omega) (by omega)
      have hcv : min (IntKind.i64.wrap ((if (i : Int).toNat < i then cn1 s cnt f (i : Int).toNat else cnt (i : Int).toNat) + 1)) (s.wa (i : Int).toNat) = cn1 s cnt f i := by
        rw [Int.toNat_natCast, e1, e2]
        exact (if_neg (by omega)).symm
      have hbe := hb
      have hl9 : s.nl (i : Int).toNat ≤ 12 := by rw [Int.toNat_natCast]; exact hlt i him
      have hb16 : e9.bytes = 16 := rfl
      have e16 : IntKind.i64.wrap ((i : Int) + 1) = ((i + 1 : Nat) : Int) := (wr_id (by omega) (by omega)).trans (by omega)
      conv => whnf
      repeat' (first
        | (refine NilG.mk fun bn hbn hbx => ?_; conv => whnf)
        | (refine Both.mk ?_ ?_ <;> conv => whnf)
        | exact trivial
        | (refine Br.mk (fun hb => ?_) (fun hb => ?_) <;> (first | (exfalso; revert hb; decide) | ((try simp only [BL] at hb) <;> (try simp only [DL] at hb) <;> (first | (exfalso; omega) | (conv => whnf)))))
        | (refine And.intro ?_ ?_; (focus (first | exact id | exact rfl | exact trivial | (intro hg; first | exact hg | exact rfl | (simp; done) | (simp at hg ⊢; assumption)) | omega | decide | exact is2_c _ _ _ | exact is1_c _ _ | exact isS_c _ _ | exact isB_c _ _ | exact Nat.le_refl _ | assumption | exact mulLe (by decide) (by omega) | exact mulLe2 (by decide) (by omega) (by omega) | (intros; simp only [BL] at *; omega) | (intros; (try simp only [BL] at *); (try simp only [DL] at *); omega) | (intros; simp only [BL] at *; rw [wr_id (by omega) (by omega)]; omega) | (intro h1 h2; exact Bool.and_eq_true_iff.2 ⟨h1, h2⟩) | first | exact ⟨rfl, by omega, by decide⟩ | exact ⟨is1_c _ _, by unfold maxLen; omega⟩ | exact fun _ => ⟨is1_c _ _, by unfold maxLen; omega⟩ | (rw [hb16]; omega) | (intros; simp_all; done))); conv => whnf)
        | (refine Or.inr (And.intro rfl ?_); first | (refine congrArg intV ?_) | (refine congrArg boolV ?_) | (refine tupII ?_ ?_) | (refine tupIII ?_ ?_ ?_) | (refine tupU ?_ ?_ ?_ ?_ ?_) | exact rfl))
      · rw [e1, e2] at hb
        have hnw : nwP s cnt f ac i := ⟨by omega, (if_neg hbe).trans hb.1, fun h => by
          have h9 : inI (lI (ac ++ nwL s cnt f ac i)) ((ac ++ nwL s cnt f ac i)).length i = false := hb.2
          rw [inI_iff.2 (mem_cur.2 h)] at h9
          cases h9⟩
        have hn : nwL s cnt f ac (i + 1) = nwL s cnt f ac i ++ [i] := if_pos hnw
        have hL : ac ++ nwL s cnt f ac (i + 1) = (ac ++ nwL s cnt f ac i) ++ [i] := by rw [hn, List.append_assoc]
        refine ⟨(i + 1, true), [0, 1, 2, 3, 9, 8], ⟨by show i + 1 ≤ s.m; omega, by rw [hn]; simp⟩, by show s.m - (i + 1) < s.m - i; omega, ?_⟩
        refine Sub.of ?_ ?_ ?_
        repeat' (first | (refine And.intro ?_ ?_) | exact trivial | exact fun _ _ _ => hsc _ _ | (exact congrArg intV (by first | with_reducible rfl | with_reducible assumption)) | exact (rfl : AV.idsLt _ _ = true) | exact (rfl : _ = AV.ren _ (.own _)) | exact (rfl : _ = AV.ren _ (.fn _ _)) | exact (rfl : _ = AV.ren _ (.gh _)) | (exact congrArg intV (by assumption)) | (refine congrArg intV ((wr_id (by omega) (by omega)).trans (by omega))) | exact rfl | (simp only [Int.toNat_natCast, Int.toNat_zero, Nat.sub_zero, Nat.zero_add]; first | exact rfl | done) | exact all0 | exact fun h => Bool.noConfusion h | exact fun _ _ _ _ => rfl | omega)
        · exact cnt_row hcv
        · exact ((congrArg (fun l => (flL s l).length) hn).trans (apS_len s _ i)).symm
        · exact fun a ha b hb => (apS a ha b hb).trans (congrArg (fun l => cS (lS (flL s l)) a b) hn.symm)
        · exact ((congrArg List.length hL).trans (by rw [List.length_append]; rfl)).symm
        · exact fun a ha b hb => (apI a ha b hb).trans (congrArg (fun l => c1 (lI l) a b) hL.symm)
      · rw [e1, e2] at hb
        have hn : nwL s cnt f ac (i + 1) = nwL s cnt f ac i := if_neg fun h => by
          obtain ⟨h1, h2, h3⟩ := h
          rcases hb with hb | hb
          · exact hb ((if_neg hbe).symm.trans h2)
          · have h9 : inI (lI (ac ++ nwL s cnt f ac i)) ((ac ++ nwL s cnt f ac i)).length i = true := hb
            exact h3 (mem_cur.1 (inI_iff.1 h9))
        refine ⟨(i + 1, true), [0, 1, 2, 3, 4, 5], ⟨by show i + 1 ≤ s.m; omega, by rw [hn]; exact hb2⟩, by show s.m - (i + 1) < s.m - i; omega, ?_⟩
        refine Sub.of ?_ ?_ ?_
        repeat' (first | (refine And.intro ?_ ?_) | exact trivial | exact fun _ _ _ => hsc _ _ | (exact congrArg intV (by first | with_reducible rfl | with_reducible assumption)) | exact (rfl : AV.idsLt _ _ = true) | exact (rfl : _ = AV.ren _ (.own _)) | exact (rfl : _ = AV.ren _ (.fn _ _)) | exact (rfl : _ = AV.ren _ (.gh _)) | (exact congrArg intV (by assumption)) | (refine congrArg intV ((wr_id (by omega) (by omega)).trans (by omega))) | exact rfl | (simp only [Int.toNat_natCast, Int.toNat_zero, Nat.sub_zero, Nat.zero_add]; first | exact rfl | done) | exact all0 | exact fun h => Bool.noConfusion h | exact fun _ _ _ _ => rfl | omega)
        all_goals first | exact cnt_row hcv | exact congrArg (fun l => (flL s l).length) hn.symm | exact fun a _ b _ => congrArg (fun l => cS (lS (flL s l)) a b) hn.symm | exact congrArg (fun l => (ac ++ l).length) hn.symm | exact fun a _ b _ => congrArg (fun l => c1 (lI (ac ++ l)) a b) hn.symm
    · obtain rfl : i = s.m := by omega
      refine ⟨[0, 1, 2, 3, 4, 5], [.box [.own 1, .own 2, .own 5], stR s, ciR s.m (cn1 s cnt f), .dead, lsR (flL s (nwL s cnt f ac s.m)), liR (ac ++ nwL s cnt f ac s.m)], .tup [.own 4, intV 0], rfl, ?_, rfl, rfl, ?_, Nat.le_add_right 4 2, rfl, .inr ⟨hb2.1 rfl, rfl⟩⟩
      all_goals repeat' (first | (refine And.intro ?_ ?_) | exact trivial | exact rfl | exact fun h => Bool.noConfusion h | exact fun _ _ _ _ => rfl)
      all_goals
        intro a ha b hb9
        match b, hb9 with
        | 0, _ => exact congrArg iL (if_pos ha)
theorem shStepE (s : Shs) (cnt : Nat → Int) (f : Int) (ac : List Nat) (hf : ¬ (-10000 ≤ f ∧ f ≤ 10000)) : FnM Try.prog 7 [.box [.own 1, .own 2, .own 3], stR s, ciR s.m cnt, liR ac] [.lp 0 0, intV f] (fun obs r => obs = [.box [.own 1, .own 2, .own 3], stR s, ciR s.m cnt, liR ac] ∧ r = .tup [.c (.v (.slice none 0 0)), intV 4]) := by
  refine fnM_of_wpx (O := lex) tab_ok gamSt_ok mixed Try.func7 (by kernel_rfl) rfl rfl rfl (by simp [Try.ntmps7]) (by kernel_rfl) ?_
  conv => whnf
  repeat' (first
    | (refine NilG.mk fun bn hbn hbx => ?_; conv => whnf)
    | (refine Both.mk ?_ ?_ <;> conv => whnf)
    | exact trivial
    | (refine Br.mk (fun hb => ?_) (fun hb => ?_) <;> (first | (exfalso; revert hb; decide) | ((try simp only [BL] at hb) <;> (try simp only [DL] at hb) <;> (first | (exfalso; omega) | (conv => whnf)))))
    | (refine And.intro ?_ ?_; (focus (first | exact id | exact rfl | exact trivial | (intro hg; first | exact hg | exact rfl | (simp; done) | (simp at hg ⊢; assumption)) | omega | decide | exact is2_c _ _ _ | exact is1_c _ _ | exact isS_c _ _ | exact isB_c _ _ | exact Nat.le_refl _ | assumption | exact mulLe (by decide) (by omega) | exact mulLe2 (by decide) (by omega) (by omega) | (intros; simp only [BL] at *; omega) | (intros; (try simp only [BL] at *); (try simp only [DL] at *); omega) | (intros; simp only [BL] at *; rw [wr_id (by omega) (by omega)]; omega) | (intro h1 h2; exact Bool.and_eq_true_iff.2 ⟨h1, h2⟩) | (intros; simp_all; done))); conv => whnf)
    | (refine Or.inr (And.intro rfl ?_); first | (refine congrArg intV ?_) | (refine congrArg boolV ?_) | (refine tupII ?_ ?_) | (refine tupIII ?_ ?_ ?_) | (refine tupU ?_ ?_ ?_ ?_ ?_) | exact rfl))
  refine ⟨[0, 1, 2, 3], [.box [.own 1, .own 2, .own 3], stR s, ciR s.m cnt, liR ac], .tup [.c (.v (.slice none 0 0)), intV 4], rfl, ?_, rfl, rfl, ?_, Nat.le_refl _, rfl, rfl⟩
  all_goals repeat' (first | (refine And.intro ?_ ?_) | exact trivial | exact rfl | exact fun h => Bool.noConfusion h | exact fun _ _ _ _ => rfl)
theorem shOff (s : Shs) (cnt : Nat → Int) (ac : List Nat) (h8 : s.m ≤ 8) (hnl : ∀ k, k < s.m → s.nl k ≤ 12) (hl : ac.length ≤ 1000) (ha : ∀ k, k ∈ ac → k < s.m) : FnM Try.prog 14 [.box [.own 1, .own 2, .own 3], stR s, ciR s.m cnt, liR ac] [.lp 0 0] (fun obs r => obs = [.box [.own 1, .own 2, .own 3], stR s, ciR s.m cnt, liR ac, lsR (flL s ac)] ∧ r = .own 4) := by
  refine fnM_of_wpx (O := lex) tab_ok gamSt_ok mixed Try.func14 (by kernel_rfl) rfl rfl rfl (by simp [Try.ntmps14]) (by kernel_rfl) ?_
  conv => whnf
  repeat' (first
    | (refine NilG.mk fun bn hbn hbx => ?_; conv => whnf)
    | (refine Both.mk ?_ ?_ <;> conv => whnf)
    | exact trivial
    | (refine Br.mk (fun hb => ?_) (fun hb => ?_) <;> (first | (exfalso; revert hb; decide) | ((try simp only [BL] at hb) <;> (try simp only [DL] at hb) <;> (first | (exfalso; omega) | (conv => whnf)))))
    | (refine And.intro ?_ ?_; (focus (first | exact id | exact rfl | exact trivial | (intro hg; first | exact hg | exact rfl | (simp; done) | (simp at hg ⊢; assumption)) | omega | decide | exact is2_c _ _ _ | exact is1_c _ _ | exact isS_c _ _ | exact isB_c _ _ | exact Nat.le_refl _ | assumption | exact mulLe (by decide) (by omega) | exact mulLe2 (by decide) (by omega) (by omega) | (intros; simp only [BL] at *; omega) | (intros; (try simp only [BL] at *); (try simp only [DL] at *); omega) | (intros; simp only [BL] at *; rw [wr_id (by omega) (by omega)]; omega) | (intro h1 h2; exact Bool.and_eq_true_iff.2 ⟨h1, h2⟩) | (intros; simp_all; done))); conv => whnf)
    | (refine Or.inr (And.intro rfl ?_); first | (refine congrArg intV ?_) | (refine congrArg boolV ?_) | (refine tupII ?_ ?_) | (refine tupIII ?_ ?_ ?_) | (refine tupU ?_ ?_ ?_ ?_ ?_) | exact rfl))
  refine LoopG.nil 3 9 1 rfl ?_
  refine sem_loop tab_ok gamSt_ok mixed (by kernel_rfl) (O := lex) (fun j : Nat => ⟨[(0, .lp 0 0), (3, .own 4), (9, .own 3), (10, intV ac.length), (11, intV j), (1000000, .gh 0), (1000001, .gh 1), (1000002, .gh 2), (1000003, .gh 3)], [.box [.own 1, .own 2, .own 3], stR s, ciR s.m cnt, liR ac, lsR (flL s (ac.take j))]⟩) (fun j => j ≤ ac.length) (fun j => ac.length - j) ⟨0, [?_, ?_, ?_, ?_, ?_], Nat.zero_le _, ?_⟩ fun j hj => ?_
  rotate_left 5
  · refine Sub.of ?_ ?_ ?_
    repeat' (first | (refine And.intro ?_ ?_) | exact trivial | exact fun _ _ _ => hsc _ _ | (exact congrArg intV (by first | with_reducible rfl | with_reducible assumption)) | exact (rfl : AV.idsLt _ _ = true) | exact (rfl : _ = AV.ren _ (.own _)) | exact (rfl : _ = AV.ren _ (.fn _ _)) | exact (rfl : _ = AV.ren _ (.gh _)) | (exact congrArg intV (by assumption)) | (refine congrArg intV ((wr_id (by omega) (by omega)).trans (by omega))) | exact rfl | (simp only [Int.toNat_natCast, Int.toNat_zero, Nat.sub_zero, Nat.zero_add]; first | exact rfl | done) | exact all0 | exact fun h => Bool.noConfusion h | exact fun _ _ _ _ => rfl | omega)
  have hg : j < ac.length → ∃ k : Nat, lI ac j = (k : Int) ∧ k < s.m ∧ ac.take (j + 1) = ac.take j ++ [k] := fun h => ⟨ac[j], by
    unfold lI
    rw [List.getD_eq_getElem?_getD, List.getElem?_eq_getElem h]
    rfl, ha _ (List.getElem_mem h), by rw [List.take_add_one, List.getElem?_eq_getElem h]; rfl⟩
  have hfl : (flL s (ac.take j)).length ≤ 12000 := by
    have := flL_len (s := s) (l := ac.take j) fun k hk => hnl k (ha k (List.mem_of_mem_take hk))
    have := List.length_take_le j ac
    omega
  have hb16 : e9.bytes = 16 := rfl
  by_cases hjl : j < ac.length
  · obtain ⟨k, k1, k2, k3⟩ := hg hjl
    have hk12 := hnl k k2
    have e1 : lI ac (j : Int).toNat = (k : Int) := by rw [Int.toNat_natCast]; exact k1
    have e2 : (lI ac (j : Int).toNat).toNat = k := by rw [e1]; omega
    have e11 : IntKind.i64.wrap ((j : Int) + 1) = ((j + 1 : Nat) : Int) := (wr_id (by omega) (by omega)).trans (by omega)
    conv => whnf
    repeat' (first
      | (refine NilG.mk fun bn hbn hbx => ?_; conv => whnf)
      | (refine Both.mk ?_ ?_ <;> conv => whnf)
      | exact trivial
      | (refine Br.mk (fun hb => ?_) (fun hb => ?_) <;> (first | (exfalso; revert hb; decide) | ((try simp only [BL] at hb) <;> (try simp only [DL] at hb) <;> (first | (exfalso; omega) | (conv => whnf)))))
      | (refine And.intro ?_ ?_; (focus (first | exact id | exact rfl | exact trivial | (intro hg; first | exact hg | exact rfl | (simp; done) | (simp at hg ⊢; assumption)) | omega | decide | exact is2_c _ _ _ | exact is1_c _ _ | exact isS_c _ _ | exact isB_c _ _ | exact Nat.le_refl _ | assumption | exact mulLe (by decide) (by omega) | exact mulLe2 (by decide) (by omega) (by omega) | (intros; simp only [BL] at *; omega) | (intros; (try simp only [BL] at *); (try simp only [DL] at *); omega) | (intros; simp only [BL] at *; rw [wr_id (by omega) (by omega)]; omega) | (intro h1 h2; exact Bool.and_eq_true_iff.2 ⟨h1, h2⟩) | first | exact ⟨rfl, by omega, by decide⟩ | exact ⟨rfl, by rw [e1]; omega, by decide⟩ | (rw [e2, hb16]; omega) | (rw [e1]; omega) | (intros; simp_all; done))); conv => whnf)
      | (refine Or.inr (And.intro rfl ?_); first | (refine congrArg intV ?_) | (refine congrArg boolV ?_) | (refine tupII ?_ ?_) | (refine tupIII ?_ ?_ ?_) | (refine tupU ?_ ?_ ?_ ?_ ?_) | exact rfl))
    refine ⟨j + 1, [0, 1, 2, 3, 5], by omega, by omega, ?_⟩
    refine Sub.of ?_ ?_ ?_
    repeat' (first | (refine And.intro ?_ ?_) | exact trivial | exact fun _ _ _ => hsc _ _ | (exact congrArg intV (by first | with_reducible rfl | with_reducible assumption)) | exact (rfl : AV.idsLt _ _ = true) | exact (rfl : _ = AV.ren _ (.own _)) | exact (rfl : _ = AV.ren _ (.fn _ _)) | exact (rfl : _ = AV.ren _ (.gh _)) | (exact congrArg intV (by assumption)) | (refine congrArg intV ((wr_id (by omega) (by omega)).trans (by omega))) | exact rfl | (simp only [Int.toNat_natCast, Int.toNat_zero, Nat.sub_zero, Nat.zero_add]; first | exact rfl | done) | exact all0 | exact fun h => Bool.noConfusion h | exact fun _ _ _ _ => rfl | omega)
    all_goals first | exact ((congrArg (fun l => (flL s l).length) k3).trans ((apS_len s _ k).trans (by rw [e2]))).symm | skip
    intro a ha b hb9
    rw [e2] at ha
    refine Eq.trans ?_ ((apS a ha b hb9).trans (congrArg (fun l => cS (lS (flL s l)) a b) k3.symm))
    show (if a < (flL s (ac.take j)).length then cS (lS (flL s (ac.take j))) a b else cS (s.ld (lI ac (j : Int).toNat).toNat) (a - (flL s (ac.take j)).length) b) = _
    rw [e2]
  · obtain rfl : j = ac.length := by omega
    conv => whnf
    repeat' (first
      | (refine NilG.mk fun bn hbn hbx => ?_; conv => whnf)
      | (refine Both.mk ?_ ?_ <;> conv => whnf)
      | exact trivial
      | (refine Br.mk (fun hb => ?_) (fun hb => ?_) <;> (first | (exfalso; revert hb; decide) | ((try simp only [BL] at hb) <;> (try simp only [DL] at hb) <;> (first | (exfalso; omega) | (conv => whnf)))))
      | (refine And.intro ?_ ?_; (focus (first | exact id | exact rfl | exact trivial | (intro hg; first | exact hg | exact rfl | (simp; done) | (simp at hg ⊢; assumption)) | omega | decide | exact is2_c _ _ _ | exact is1_c _ _ | exact isS_c _ _ | exact isB_c _ _ | exact Nat.le_refl _ | assumption | exact mulLe (by decide) (by omega) | exact mulLe2 (by decide) (by omega) (by omega) | (intros; simp only [BL] at *; omega) | (intros; (try simp only [BL] at *); (try simp only [DL] at *); omega) | (intros; simp only [BL] at *; rw [wr_id (by omega) (by omega)]; omega) | (intro h1 h2; exact Bool.and_eq_true_iff.2 ⟨h1, h2⟩) | (intros; simp_all; done))); conv => whnf)
      | (refine Or.inr (And.intro rfl ?_); first | (refine congrArg intV ?_) | (refine congrArg boolV ?_) | (refine tupII ?_ ?_) | (refine tupIII ?_ ?_ ?_) | (refine tupU ?_ ?_ ?_ ?_ ?_) | exact rfl))
    refine ⟨[0, 1, 2, 3, 4], [.box [.own 1, .own 2, .own 3], stR s, ciR s.m cnt, liR ac, lsR (flL s ac)], .own 4, rfl, ?_, rfl, rfl, ?_, Nat.le_add_right 4 1, rfl, rfl⟩
    all_goals repeat' (first | (refine And.intro ?_ ?_) | exact trivial | exact rfl | exact fun h => Bool.noConfusion h | exact fun _ _ _ _ => rfl)
    all_goals first | exact congrArg (fun l => (flL s l).length) (List.take_length) | exact fun a _ b _ => congrArg (fun l => cS (lS (flL s l)) a b) (List.take_length)
end Go.Proofs.Ytmhjkleknpdkgaa
