/-
  DispatchCosts holds: dispatch.Cost returns the cost of all powers, and their sum, whatever the input.
-/
import Derived.Test.YtdakikgebfphmaaDsp
namespace Go.Proofs.Ytdakikgebfphmaa
open Go.RowKit Go.ChangeShapes Go.WideShapes

/-- a list of offers and a list of powers -/
def sOls (P : Nat → (Nat → ByteArray) → (Nat → Nat) → (Nat → Nat → Int) → (Nat → Nat → Int) → Nat → (Nat → Int) → Prop) (g : Nat → (Nat → ByteArray) → (Nat → Nat) → (Nat → Nat → Int) → (Nat → Nat → Int) → Nat → (Nat → Int) → AV) : List AV → Sd × AV
  | [.c (.sl 2 n f), .c (.sl 1 k x)] => (.p (isO n f ∧ is1 k x ∧ P n (dS f) (oM f) (oP f) (oQ f) k (d0 x)), g n (dS f) (oM f) (oP f) (oQ f) k (d0 x))
  | _ => (.p False, .top)
theorem sOls_ok {f : FuncId} {P} {g} (h : ∀ s m p q n k x, n ≤ maxLen → (∀ k, k < n → (s k).size ≤ maxLen ∧ m k ≤ maxLen) → P n s m p q k x → Fn1 Try.prog f [.c (.sl 2 n (cO s m p q)), .c (.sl 1 k (c1 x))] (g n s m p q k x)) :
    ∀ args, (sOls P g args).1.ok → (sOls P g args).2.exact.isSome = true → Fn1 Try.prog f args (sOls P g args).2 := fun args hs _ => by
  unfold sOls at hs ⊢
  split at hs
  · exact (h _ _ _ _ _ _ _ hs.1.2.1 hs.1.2.2 hs.2.2).le (Le.cons (Le1.l (LLe.sl hs.1.1)) (Le.cons (Le1.sl hs.2.1) Le.nil))
  · exact hs.elim

def gamD2 : Gam := fun f => match f with
  | 23 => some (sOls (fun _ _ _ _ _ k _ => k ≤ maxLen) fun n s m p q k x => dcV n k s m p q x)
  | 25 => some (sOl fun n s m p q => intV (offsE n s m p q))
  | 22 => some (s3 inB)
  | 26 => some (sO (fun _ n p q => okOff n p q) fun _ n p _ => intV (S p n))
  | 27 => some (sOi (fun _ n p q x => okOff n p q ∧ 0 ≤ x ∧ x ≤ 2000000) fun _ n p q x => intV (S (ct p q x) n))
  | _ => none
theorem gamD2_ok : GOk Try.prog gamD2 := fun f g h => by
  unfold gamD2 at h
  split at h
  · injection h with h; subst h; exact sOls_ok fun s m p q n k x h1 h2 h3 => dspCost s m p q n k x h1 h2 h3
  · injection h with h; subst h; exact sOl_ok fun s m p q n h1 h2 => offsError s m p q n h1 h2
  · injection h with h; subst h; exact s3_ok in3
  · injection h with h; subst h; exact sO_ok offAll
  · injection h with h; subst h; exact sOi_ok offCost3
  · cases h

set_option maxHeartbeats 1000000 in
theorem dspLaw (s : Nat → ByteArray) (m : Nat → Nat) (p q : Nat → Nat → Int) (n nx : Nat) (x : Nat → Int) (hn : n ≤ maxLen) (hk : ∀ k, k < n → (s k).size ≤ maxLen ∧ m k ≤ maxLen) (hnx : nx ≤ maxLen) :
    Fn1 Try.prog 4 [.c (.sl 2 n (cO s m p q)), .c (.sl 1 nx (c1 x))] (boolV true) := by
  refine fn_of_wpx (O := lex) tab_ok gamD2_ok mixed Try.func4 (by kernel_rfl) rfl rfl rfl (by simp [Try.ntmps4]) (by kernel_rfl) ?_
  have hn' : n ≤ 9223372036854775807 := hn
  have hnx' : nx ≤ 9223372036854775807 := hnx
  conv => whnf
  repeat' (first
    | (refine NilG.mk fun bn hbn => ?_; conv => whnf)
    | (refine Both.mk ?_ ?_ <;> conv => whnf)
    | exact trivial
    | (refine Br.mk (fun hb => ?_) (fun hb => ?_) <;> (first | (exfalso; revert hb; decide) | ((try simp only [BL] at hb) <;> (try simp only [DL] at hb) <;> conv => whnf)))
    | (refine And.intro ?_ ?_; (focus (first | exact id | exact rfl | exact trivial | (intro hg; first | exact hg | exact rfl | (simp; done) | (simp at hg ⊢; assumption)) | omega | decide | exact is2_c _ _ _ | exact is1_c _ _ | exact isS_c _ _ | exact isB_c _ _ | exact Nat.le_refl _ | assumption | exact mulLe (by decide) (by omega) | exact mulLe2 (by decide) (by omega) (by omega) | (intros; simp only [BL] at *; omega) | (intros; (try simp only [BL] at *); (try simp only [DL] at *); omega) | (intros; simp only [BL] at *; rw [wr_id (by omega) (by omega)]; omega) | (intros; simp_all; done))); conv => whnf)
    | (refine Or.inr (And.intro rfl ?_); first | (refine congrArg intV ?_) | (refine congrArg boolV ?_) | (refine tupII ?_ ?_) | (refine tupIII ?_ ?_ ?_) | (refine tupU ?_ ?_ ?_ ?_ ?_) | exact rfl))
  refine CallG.mk (Fn.mono (two _) ?_)
  rintro obs r ⟨rfl, rfl⟩
  conv => whnf
  repeat' (first
    | (refine NilG.mk fun bn hbn => ?_; conv => whnf)
    | (refine Both.mk ?_ ?_ <;> conv => whnf)
    | exact trivial
    | (refine Br.mk (fun hb => ?_) (fun hb => ?_) <;> (first | (exfalso; revert hb; decide) | ((try simp only [BL] at hb) <;> (try simp only [DL] at hb) <;> conv => whnf)))
    | (refine And.intro ?_ ?_; (focus (first | exact id | exact rfl | exact trivial | (intro hg; first | exact hg | exact rfl | (simp; done) | (simp at hg ⊢; assumption)) | omega | decide | exact is2_c _ _ _ | exact is1_c _ _ | exact isS_c _ _ | exact isB_c _ _ | exact Nat.le_refl _ | assumption | exact mulLe (by decide) (by omega) | exact mulLe2 (by decide) (by omega) (by omega) | (intros; simp only [BL] at *; omega) | (intros; (try simp only [BL] at *); (try simp only [DL] at *); omega) | (intros; simp only [BL] at *; rw [wr_id (by omega) (by omega)]; omega) | (intros; simp_all; done))); conv => whnf)
    | (refine Or.inr (And.intro rfl ?_); first | (refine congrArg intV ?_) | (refine congrArg boolV ?_) | (refine tupII ?_ ?_) | (refine tupIII ?_ ?_ ?_) | (refine tupU ?_ ?_ ?_ ?_ ?_) | exact rfl))
  refine And.intro ⟨⟨fun k hk j hj => ?_, by decide, fun k hk => ?_⟩, fun k hk j hj => ?_, by decide⟩ ?_
  · match k, j, hk, hj with
    | 0, 0, _, _ => exact LLe.of_eq rfl
    | 0, 1, _, _ => exact LLe.of_eq rfl
  · match k, hk with
    | 0, _ => exact ⟨by decide, by decide⟩
  · match k, j, hk, hj with
    | 0, 0, _, _ => rfl
  conv => whnf
  repeat' (first
    | (refine NilG.mk fun bn hbn => ?_; conv => whnf)
    | (refine Both.mk ?_ ?_ <;> conv => whnf)
    | exact trivial
    | (refine Br.mk (fun hb => ?_) (fun hb => ?_) <;> (first | (exfalso; revert hb; decide) | ((try simp only [BL] at hb) <;> (try simp only [DL] at hb) <;> conv => whnf)))
    | (refine And.intro ?_ ?_; (focus (first | exact id | exact rfl | exact trivial | (intro hg; first | exact hg | exact rfl | (simp; done) | (simp at hg ⊢; assumption)) | omega | decide | exact is2_c _ _ _ | exact is1_c _ _ | exact isS_c _ _ | exact isB_c _ _ | exact Nat.le_refl _ | assumption | exact mulLe (by decide) (by omega) | exact mulLe2 (by decide) (by omega) (by omega) | (intros; simp only [BL] at *; omega) | (intros; (try simp only [BL] at *); (try simp only [DL] at *); omega) | (intros; simp only [BL] at *; rw [wr_id (by omega) (by omega)]; omega) | (intros; simp_all; done) | first | exact ⟨isO_c hn hk, is1_c _ _, hnx⟩ | exact isO_c hn hk)); conv => whnf)
    | (refine Or.inr (And.intro rfl ?_); first | (refine congrArg intV ?_) | (refine congrArg boolV ?_) | (refine tupII ?_ ?_) | (refine tupIII ?_ ?_ ?_) | (refine tupU ?_ ?_ ?_ ?_ ?_) | exact rfl))
  · rename_i hq
    have h0 : offsE n s m p q = 0 := hq.1
    have hE : dxE n nx s m p q x = 3 := by unfold dxE; rw [if_neg (fun h => h h0), if_pos (by omega)]
    show (dxE n nx s m p q x == 3 && (if dxE n nx s m p q x = 0 then S (cK m p q x) n else 0) == 0 && (if dxE n nx s m p q x = 0 then S x n else 0) == 0) = true
    rw [hE]
    rfl
  rotate_left
  · have h0 : ¬ offsE n s m p q = 0 := hb
    have hE : dxE n nx s m p q x = offsE n s m p q := if_pos h0
    show (dxE n nx s m p q x == offsE n s m p q && (if dxE n nx s m p q x = 0 then S (cK m p q x) n else 0) == 0 && (if dxE n nx s m p q x = 0 then S x n else 0) == 0) = true
    rw [hE, if_neg h0, if_neg h0]
    simp
  rename_i hq
  have h0 : offsE n s m p q = 0 := hb
  obtain ⟨hn10, hall⟩ := offsE_zero h0
  obtain rfl : nx = n := by
    rcases hq with hh | hh
    · exact absurd h0 hh
    · omega
  have hE : dxE nx nx s m p q x = fst (pwE m p x) nx := by unfold dxE; rw [if_neg (fun h => h h0), if_neg (fun h => h rfl)]
  clear hb hq
  refine sem_loop tab_ok gamD2_ok mixed (by kernel_rfl) (O := lex) (fun i : Nat => ⟨[(56, intV i), (55, intV nx), (54, .c (.sl 2 nx (cO s m p q))), (1, .c (.sl 1 nx (c1 x))), (8, intV (if dxE nx nx s m p q x = 0 then S (cK m p q x) nx else 0)), (9, intV (if dxE nx nx s m p q x = 0 then S x nx else 0)), (10, intV (dxE nx nx s m p q x)), (11, intV 0), (12, intV (S (cK m p q x) i)), (13, intV (S x i))], []⟩) (fun i => i ≤ nx ∧ fst (pwE m p x) i = 0) (fun i => nx - i) ⟨0, [], ⟨Nat.zero_le _, rfl⟩, ?_⟩ fun i hi => ?_
  · refine Sub.of ?_ ?_ ?_
    repeat' (first | (refine And.intro ?_ ?_) | exact trivial | (exact congrArg intV (by assumption)) | (refine congrArg intV ((wr_id (by omega) (by omega)).trans (by omega))) | exact rfl | (simp only [Int.toNat_natCast, Int.toNat_zero, Nat.sub_zero, Nat.zero_add]; first | exact rfl | done) | exact all0 | exact fun h => Bool.noConfusion h | exact fun _ _ _ _ => rfl | omega)
  have hs := dsum h0 hi.1 hi.2
  have hS : i < nx → 0 ≤ S (p i) (m i) ∧ S (p i) (m i) ≤ 100000 := fun h => ⟨(hall i h).2.2.2, (hall i h).2.2.1⟩
  conv => whnf
  repeat' (first
    | (refine NilG.mk fun bn hbn => ?_; conv => whnf)
    | (refine Both.mk ?_ ?_ <;> conv => whnf)
    | exact trivial
    | (refine Br.mk (fun hb => ?_) (fun hb => ?_) <;> (first | (exfalso; revert hb; decide) | ((try simp only [BL] at hb) <;> (try simp only [DL] at hb) <;> conv => whnf)))
    | (refine And.intro ?_ ?_; (focus (first | exact id | exact rfl | exact trivial | (intro hg; first | exact hg | exact rfl | (simp; done) | (simp at hg ⊢; assumption)) | omega | decide | exact is2_c _ _ _ | exact is1_c _ _ | exact isS_c _ _ | exact isB_c _ _ | exact Nat.le_refl _ | assumption | exact mulLe (by decide) (by omega) | exact mulLe2 (by decide) (by omega) (by omega) | (intros; simp only [BL] at *; omega) | (intros; (try simp only [BL] at *); (try simp only [DL] at *); omega) | (intros; simp only [BL] at *; rw [wr_id (by omega) (by omega)]; omega) | (intros; simp_all; done) | first | exact ⟨is2_c _ _ _, (hall i (by omega)).2.1⟩ | (refine ⟨is2_c _ _ _, (hall i (by omega)).2.1, ?_, ?_⟩ <;> (have := hS (by omega); simp [inB] at *; omega)))); conv => whnf)
    | (refine Or.inr (And.intro rfl ?_); first | (refine congrArg intV ?_) | (refine congrArg boolV ?_) | (refine tupII ?_ ?_) | (refine tupIII ?_ ?_ ?_) | (refine tupU ?_ ?_ ?_ ?_ ?_) | exact rfl))
  · have h1 : pwE m p x i = 4 := by unfold pwE; rw [if_pos (by omega)]
    have hE' : dxE nx nx s m p q x = 4 := by rw [hE, fst_at hi.2 (by rw [h1]; decide) (by omega), h1]
    rw [hE']
    rfl
  · have h1 : pwE m p x i = 0 := by unfold pwE; rw [if_neg (by omega)]
    have hs' := dsum h0 (i := i + 1) (by omega) (fst_next hi.2 h1)
    have e1 : IntKind.i64.wrap (S (cK m p q x) i + S (ct (p i) (q i) (x i)) (m i)) = S (cK m p q x) (i + 1) := wr_id (by simp only [S, cK] at hs' ⊢; omega) (by simp only [S, cK] at hs' ⊢; omega)
    have e2 : IntKind.i64.wrap (S x i + x i) = S x (i + 1) := wr_id (by simp only [S] at hs'; omega) (by simp only [S] at hs'; omega)
    refine ⟨i + 1, [], ⟨by omega, fst_next hi.2 h1⟩, by omega, ?_⟩
    refine Sub.of ?_ ?_ ?_
    repeat' (first | (refine And.intro ?_ ?_) | exact trivial | (exact congrArg intV (by assumption)) | (refine congrArg intV ((wr_id (by omega) (by omega)).trans (by omega))) | exact rfl | (simp only [Int.toNat_natCast, Int.toNat_zero, Nat.sub_zero, Nat.zero_add]; first | exact rfl | done) | exact all0 | exact fun h => Bool.noConfusion h | exact fun _ _ _ _ => rfl | omega)
  · obtain rfl : i = nx := by omega
    have hE' : dxE i i s m p q x = 0 := hE.trans hi.2
    rw [hE']
    simp

theorem dispatchCosts_own : ownKnob Try.prog.godebug = none := by kernel_rfl
theorem dispatchCosts_laid : laidOutB Try.prog = true := by kernel_rfl

set_option maxRecDepth 100000 in
theorem dispatchCosts_lifted (os : Os) (started : os.Started) (H : Type) (enc : TypeId × Value → H) :
    ReturnsInHanded {} Try.checked os 4 .any (Rows.dispatchCostsSpec.pre6 enc Try.prog Try.f4 Rows.dispatchCostsRow.domain false) (Rows.dispatchCostsSpec.post enc Try.prog Try.f4 false true false false) := by
  refine returnsInHanded_of_change (C := Try.checked) dispatchCosts_own started (by kernel_rfl) Try.func4
    (ChangeSpec.witness6 (enc := enc) (C := Try.checked) false ⟨#[], #[.slice none 0 0, .slice none 0 0], []⟩ 8 (by kernel_rfl) (by kernel_rfl) (by kernel_rfl) (by kernel_rfl)) ?_
  intro W base args ds gs before hval0 hW hcnd _
  have hval : ∀ (j : Nat) t v, Try.f4.params[j]? = some t → args[j]? = some v → Value.okWide Try.prog W .any base t v := hval0
  have hW' : DataW.Whole enc Try.prog Try.f4.params.toList Rows.dispatchCostsSpec.vars false W args.toList ds gs before := hW
  exact law_post (P := Try.prog) [.sl tyOff, .sl (.i .i64)] (by kernel_rfl) dispatchCosts_laid (by kernel_rfl) rfl (tb := 4) rfl (by kernel_rfl) (fun ds h => by
    match ds, h with
    | [d1, d2], _ => rfl) (fun x hx => dspLaw (fun k => (x.1.2 k).1) (fun k => (x.1.2 k).2.1.1) (fun k i => ((x.1.2 k).2.1.2 i).1) (fun k i => ((x.1.2 k).2.1.2 i).2.1) x.1.1 x.2.1.1 x.2.1.2 hx.1.1 (fun k hk => ⟨(hx.1.2 k hk).1, (hx.1.2 k hk).2.1.1⟩) hx.2.1.1) W args ds gs before hval hW'

theorem dispatchCosts_holds : Rows.DispatchCostsSaid :=
  OpenClaim.holds_of_wide 4 Try.f4 rfl rfl rfl rfl rfl rfl rfl ⟨rfl, rfl, rfl, rfl, rfl⟩ rfl rfl rfl rfl rfl (by kernel_rfl) Try.func4 (by kernel_rfl)
    (of_decide_eq_true (by kernel_rfl)) (by unfold Func.isWrapper; rw [if_neg (by decide +kernel)]; exact ⟨rfl, rfl⟩)
    (fun os started H enc _ => dispatchCosts_lifted os started H enc)
end Go.Proofs.Ytdakikgebfphmaa
