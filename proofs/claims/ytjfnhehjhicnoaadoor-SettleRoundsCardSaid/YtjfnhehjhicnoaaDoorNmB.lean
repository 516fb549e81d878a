/-
  Names: netmodel.Name.
-/
import Derived.Test.YtjfnhehjhicnoaaDoorPur
namespace Go.Proofs.YtjfnhehjhicnoaaDoor
open Go.RowKit

theorem strB_le (s : ByteArray) (i : Nat) : 0 ≤ strB s i ∧ strB s i ≤ 255 := by
  unfold strB
  cases s[i]? with
  | none => simp
  | some b => simp; have := b.toNat_lt; omega

def upB (c : Int) : Bool := inB c 65 90
def digB (c : Int) : Bool := inB c 48 57
def chB (s : ByteArray) (k : Nat) : Bool := upB (strB s k) || decide (0 < k) && digB (strB s k)
/-- a name: one to eight letters or digits, the first one a letter -/
def nameB (s : ByteArray) : Bool := decide (1 ≤ s.size) && decide (s.size ≤ 8) && (List.range s.size).all (chB s)

theorem all_range {n : Nat} {p : Nat → Bool} : (List.range n).all p = true ↔ ∀ k, k < n → p k = true := by
  rw [List.all_eq_true]
  exact ⟨fun h k hk => h k (List.mem_range.2 hk), fun h k hk => h k (List.mem_range.1 hk)⟩

def gamN1 : Gam := fun f => if f = 1000000 + 108 then some (fun _ => (.p False, .top)) else none
theorem gamN1_ok : GOk Tryd.prog gamN1 := fun f g h => by
  unfold gamN1 at h
  split at h
  · injection h with h; subst h; intro args hs; exact hs.elim
  · cases h

theorem name1 (s : ByteArray) (hs : s.size ≤ maxLen) : Fn1 Tryd.prog 39 [strV s] (boolV (nameB s)) := by
  refine fn_of_wpx (O := lex) tab_ok gamN1_ok mixed Tryd.func39 (by kernel_rfl) rfl rfl rfl (by simp [Tryd.ntmps39]) (by kernel_rfl) ?_
  conv => whnf
  repeat' (first
    | (refine NilG.mk fun bn hbn hbx => ?_; conv => whnf)
    | (refine Both.mk ?_ ?_ <;> conv => whnf)
    | ((first | (refine MkG.box 1 rfl rfl rfl (by decide) ?_) | (refine MkG.box 2 rfl rfl rfl (by decide) ?_) | (refine MkG.box 3 rfl rfl rfl (by decide) ?_) | (refine MkG.row ?_)); conv => whnf)
    | (refine LitG.row ?_; conv => whnf)
    | exact trivial
    | (refine Br.mk (fun hb => ?_) (fun hb => ?_) <;> (first | (exfalso; revert hb; decide) | ((try simp only [BL] at hb) <;> (try simp only [DL] at hb) <;> conv => whnf)))
    | (refine And.intro ?_ ?_; (focus (first | exact id | exact rfl | exact trivial | (intro hg; first | exact hg | exact rfl | (simp; done) | (simp at hg ⊢; assumption)) | omega | decide | exact is2_c _ _ _ | exact is1_c _ _ | exact isS_c _ _ | exact isB_c _ _ | exact Nat.le_refl _ | assumption | exact mulLe (by decide) (by omega) | exact mulLe2 (by decide) (by omega) (by omega) | (intros; simp only [BL] at *; omega) | (intros; (try simp only [BL] at *); (try simp only [DL] at *); omega) | (intros; simp only [BL] at *; rw [wr_id (by omega) (by omega)]; omega) | (intro h1 h2; exact Bool.and_eq_true_iff.2 ⟨h1, h2⟩) | (intros; simp_all; done))); conv => whnf)
    | (refine Or.inr (And.intro rfl ?_); first | (refine congrArg intV ?_) | (refine congrArg boolV ?_) | (refine tupII ?_ ?_) | (refine tupIII ?_ ?_ ?_) | (refine tupU ?_ ?_ ?_ ?_ ?_) | exact rfl))
  have hs' : s.size ≤ 9223372036854775807 := hs
  refine sem_loop tab_ok gamN1_ok mixed (by kernel_rfl) (O := lex) (fun i : Nat => ⟨[(8, intV i), (7, intV s.size), (6, .c (.sl 1 s.size fun i _ => .v (.int .u8 (strB s i)))), (0, strV s)], []⟩) (fun i => i ≤ s.size ∧ ∀ k, k < i → chB s k = true) (fun i => s.size - i) ⟨0, [], ⟨Nat.zero_le _, fun k hk => absurd hk (Nat.not_lt_zero _)⟩, ?_⟩ fun i hi => ?_
  · repeat' (first | (refine And.intro ?_ ?_) | exact trivial | exact fun _ _ _ => hsc _ _ | (exact congrArg intV (by first | with_reducible rfl | with_reducible assumption)) | exact (rfl : AV.idsLt _ _ = true) | exact (rfl : _ = AV.ren _ (.own _)) | exact (rfl : _ = AV.ren _ (.fn _ _)) | exact (rfl : _ = AV.ren _ (.gh _)) | (exact congrArg intV (by assumption)) | (refine congrArg intV ((wr_id (by omega) (by omega)).trans (by omega))) | exact rfl | (simp only [NLc]; first | exact rfl | done))
  conv => whnf
  repeat' (first
    | (refine NilG.mk fun bn hbn hbx => ?_; conv => whnf)
    | (refine Both.mk ?_ ?_ <;> conv => whnf)
    | ((first | (refine MkG.box 1 rfl rfl rfl (by decide) ?_) | (refine MkG.box 2 rfl rfl rfl (by decide) ?_) | (refine MkG.box 3 rfl rfl rfl (by decide) ?_) | (refine MkG.row ?_)); conv => whnf)
    | (refine LitG.row ?_; conv => whnf)
    | exact trivial
    | (refine Br.mk (fun hb => ?_) (fun hb => ?_) <;> (first | (exfalso; revert hb; decide) | ((try simp only [BL] at hb) <;> (try simp only [DL] at hb) <;> conv => whnf)))
    | (refine And.intro ?_ ?_; (focus (first | exact id | exact rfl | exact trivial | (intro hg; first | exact hg | exact rfl | (simp; done) | (simp at hg ⊢; assumption)) | omega | decide | exact is2_c _ _ _ | exact is1_c _ _ | exact isS_c _ _ | exact isB_c _ _ | exact Nat.le_refl _ | assumption | exact mulLe (by decide) (by omega) | exact mulLe2 (by decide) (by omega) (by omega) | (intros; simp only [BL] at *; omega) | (intros; (try simp only [BL] at *); (try simp only [DL] at *); omega) | (intros; simp only [BL] at *; rw [wr_id (by omega) (by omega)]; omega) | (intro h1 h2; exact Bool.and_eq_true_iff.2 ⟨h1, h2⟩) | (intros; simp_all; done))); conv => whnf)
    | (refine Or.inr (And.intro rfl ?_); first | (refine congrArg intV ?_) | (refine congrArg boolV ?_) | (refine tupII ?_ ?_) | (refine tupIII ?_ ?_ ?_) | (refine tupU ?_ ?_ ?_ ?_ ?_) | exact rfl))
  · symm
    rw [nameB, Bool.and_eq_false_iff]
    refine .inr (Bool.eq_false_iff.2 fun h => ?_)
    have := all_range.1 h i (by omega)
    simp only [chB, upB, digB, inB, BL] at this
    omega
  · rename_i h1
    refine ⟨i + 1, [], ⟨by omega, fun k hk => ?_⟩, by omega, ?_⟩
    · by_cases hki : k < i
      · exact hi.2 k hki
      · obtain rfl : k = i := by omega
        simp only [chB, upB, digB, inB, BL]
        omega
    · repeat' (first | (refine And.intro ?_ ?_) | exact trivial | exact fun _ _ _ => hsc _ _ | (exact congrArg intV (by first | with_reducible rfl | with_reducible assumption)) | exact (rfl : AV.idsLt _ _ = true) | exact (rfl : _ = AV.ren _ (.own _)) | exact (rfl : _ = AV.ren _ (.fn _ _)) | exact (rfl : _ = AV.ren _ (.gh _)) | (exact congrArg intV (by assumption)) | (refine congrArg intV ((wr_id (by omega) (by omega)).trans (by omega))) | exact rfl | (simp only [NLc]; first | exact rfl | done))
  · obtain rfl : i = s.size := by omega
    rw [nameB, show (List.range s.size).all (chB s) = true from all_range.2 hi.2, Bool.and_true, Bool.eq_iff_iff]
    simp only [BL]
    omega

def s1S (p : ByteArray → Prop) (f : ByteArray → Bool) : List AV → Sd × AV
  | [.c (.v (.string s))] => (.p (p s), boolV (f s))
  | _ => (.p False, .top)
theorem s1S_ok {f : FuncId} {p : ByteArray → Prop} {g : ByteArray → Bool} (h : ∀ a, p a → Fn1 Tryd.prog f [strV a] (boolV (g a))) : ∀ args, (s1S p g args).1.ok → (s1S p g args).2.exact.isSome = true → Fn1 Tryd.prog f args (s1S p g args).2 := fun args hs _ => by
  unfold s1S at hs ⊢
  split at hs
  · exact h _ hs
  · exact hs.elim

end Go.Proofs.YtjfnhehjhicnoaaDoor
